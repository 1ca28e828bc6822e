/- SyntaxBlanks, part 6 of 10 of its proof (what is proved: whatever the text is, the law answers true; conditions: those each theorem states). Joined and shortened by a program. In order: SynA -/
import Derived.Test.YthodfojhbbendaaDoorPe
section
set_option linter.all false
set_option maxRecDepth 100000
namespace Go.Proofs.YthodfojhbbendaaDoor
open Go Go.Ev
noncomputable section
noncomputable def aI (v:AV):Option (Int×List UInt8×Int×Bool×Int×List UInt8×AV×AV×AV×AV):=match v with
 | .agg [.int .i64 a0,.str a1,.int .i64 a2,.bool a3,.int .i64 a4,.str a5,a6,a7,a8,a9]=>some (a0,a1,a2,a3,a4,a5,a6,a7,a8,a9)
 | _=>none
theorem aH {v:AV}{a0:Int}{a1:List UInt8}{a2:Int}{a3:Bool}{a4:Int}{a5:List UInt8}{a6:AV}{a7:AV}{a8:AV}{a9:AV}(h:aI v=some (a0,a1,a2,a3,a4,a5,a6,a7,a8,a9)):v=.agg [.int .i64 a0,.str a1,.int .i64 a2,.bool a3,.int .i64 a4,.str a5,a6,a7,a8,a9]:=by
 unfold aI at h
 split at h
 ·cases h; rfl
 ·cases h
noncomputable def fE (v:AV):Option (Int×Bool×Int×List UInt8×AV×AV):=match v with
 | .agg [.int .i64 a0,.bool a1,.int .i64 a2,.str a3,a4,a5]=>some (a0,a1,a2,a3,a4,a5)
 | _=>none
theorem iO {v:AV}{a0:Int}{a1:Bool}{a2:Int}{a3:List UInt8}{a4:AV}{a5:AV}(h:fE v=some (a0,a1,a2,a3,a4,a5)):v=.agg [.int .i64 a0,.bool a1,.int .i64 a2,.str a3,a4,a5]:=by
 unfold fE at h
 split at h
 ·cases h; rfl
 ·cases h
noncomputable def aD (v:AV):Option (Int×List UInt8×List UInt8×Int×List UInt8×Int×Bool×Int×List UInt8×AV×AV×AV×AV×AV×AV×Int×List UInt8×Int×Bool×Int×List UInt8×AV×AV×AV×AV×AV×Bool×Bool×List UInt8×Bool×Int):=match v with
 | .agg [.int .i64 a0,.str a1,.str a2,.int .i64 a3,.str a4,.int .i64 a5,.bool a6,.int .i64 a7,.str a8,a9,a,b,c,d,e,.int .i64 f,.str g,.int .i64 h,.bool i,.int .i64 j,.str k,l,m,n,o,p,.bool q,.bool r,.str s,.bool t,.int .i64 u]=>some (a0,a1,a2,a3,a4,a5,a6,a7,a8,a9,a,b,c,d,e,f,g,h,i,j,k,l,m,n,o,p,q,r,s,t,u)
 | _=>none
theorem aF {v:AV}{a0:Int}{a1:List UInt8}{a2:List UInt8}{a3:Int}{a4:List UInt8}{a5:Int}{a6:Bool}{a7:Int}{a8:List UInt8}{a9:AV}{a:AV}{b:AV}{c:AV}{d:AV}{e:AV}{f:Int}{g:List UInt8}{i:Int}{j:Bool}{k:Int}{l:List UInt8}{m:AV}{n:AV}{o:AV}{p:AV}{q:AV}{r:Bool}{s:Bool}{t:List UInt8}{u:Bool}{w:Int}(h:aD v=some (a0,a1,a2,a3,a4,a5,a6,a7,a8,a9,a,b,c,d,e,f,g,i,j,k,l,m,n,o,p,q,r,s,t,u,w)):v=.agg [.int .i64 a0,.str a1,.str a2,.int .i64 a3,.str a4,.int .i64 a5,.bool a6,.int .i64 a7,.str a8,a9,a,b,c,d,e,.int .i64 f,.str g,.int .i64 i,.bool j,.int .i64 k,.str l,m,n,o,p,q,.bool r,.bool s,.str t,.bool u,.int .i64 w]:=by
 unfold aD at h
 split at h
 ·cases h; rfl
 ·cases h
noncomputable def dF (v:AV):Option (List UInt8×AV):=match v with
 | .agg [.str a0,a1]=>some (a0,a1)
 | _=>none
theorem cL {v:AV}{a0:List UInt8}{a1:AV}(h:dF v=some (a0,a1)):v=.agg [.str a0,a1]:=by
 unfold dF at h
 split at h
 ·cases h; rfl
 ·cases h
noncomputable def bJ (R:Nat)(x2:AV)(i3:Int)(st4:St):Option (St):=
 (aZ x2).bind fun _=>
 (shift x2 5).bind fun x7=>
 (loadAt C0.P st4 35 x7).bind fun x9=>
 (eP .i64 x9).bind fun a=>
 if(a=0) then
  (aZ x2).bind fun _=>
  (shift x2 0).bind fun b=>
  (loadAt C0.P st4 40 b).bind fun c=>
  (aZ x2).bind fun _=>
  (shift x2 1).bind fun d=>
  (loadAt C0.P st4 3 d).bind fun e=>
  (eP .i64 e).bind fun f=>
  (cV C0.P 40 c (.int .i64 f)).bind fun g=>
  (shift g 2).bind fun h=>
  (loadAt C0.P st4 3 h).bind fun i=>
  (eP .i64 i).bind fun j=>
  (aZ x2).bind fun _=>
  (storeAt C0.P st4 35 x7 (.int .i64 i3)).bind fun k=>
  (aZ x2).bind fun _=>
  (shift x2 4).bind fun l=>
  (storeAt C0.P k 3 l (.int .i64 j)).bind fun m=>
  some m
 else
  some st4
theorem bO {R:Nat}(n:Nat){x2:AV}{i3:Int}{st4:St}{r:St}(h:bJ R x2 i3 st4=some r):
 b7 (aR C0 cK R (n+1)) false 14 [x2,(.int .i64 i3)] st4 (.tuple []) r:=by
 revert h;unfold bJ;refine aA fun _o h5=>?_;refine aA fun x7 h6=>?_;refine aA fun x9 h8=>?_;refine aA fun b Mf=>?_;obtain rfl:=cA Mf;refine bD (fun a=>?_) (fun a=>?_)
 ·refine aA fun _o c=>?_;refine aA fun d e=>?_;refine aA fun f g=>?_;refine aA fun _o i=>?_;refine aA fun j PO=>?_;refine aA fun E k=>?_;refine aA fun l m=>?_;obtain rfl:=cA m;refine aA fun o p=>?_;refine aA fun q s=>?_;refine aA fun F t=>?_;refine aA fun u v=>?_;obtain rfl:=cA v;refine aA fun _o w=>?_;refine aA fun x y=>?_;refine aA fun _o z=>?_;refine aA fun A B=>?_;refine aA fun C D=>?_;intro h;obtain rfl:=cB h;exact aL (hs:=[.run 1,.val x2,.val x7,.val (.int .i64 b),.dec true,.aJ,.run 4,.val x2,.val d,.val f,.run 1,.val x2,.val j,.val (.int .i64 l),.val o,.val q,.val (.int .i64 u),.val x2,.val x7,.bM AV.undef x,.val x2,.val A,.bM AV.undef C]) (by kernel_rfl) (aK (aP D)<|aK B<|aK (cC z)<|aK (aP y)<|aK h6<|aK (cC w)<|aK t<|aK s<|aK p<|aK k<|aK PO<|aK (cC i)<|aK g<|aK e<|aK (cC c)<|aK (gA a)<|aK h8<|aK h6<|aK (cC h5) gD) (by kernel_rfl) (by kernel_rfl)
 ·intro h;obtain rfl:=cB h;exact aL (hs:=[.run 1,.val x2,.val x7,.val (.int .i64 b),.dec false,.aJ]) (by kernel_rfl) (aK (eW a)<|aK h8<|aK h6<|aK (cC h5) gD) (by kernel_rfl) (by kernel_rfl)
noncomputable def kN (R:Nat)(c:AV)(d:Int)(e:List UInt8)(a:St):Option (Bool×St):=
 (aZ c).bind fun _=>
 (shift c 0).bind fun f=>
 (loadAt C0.P a 40 f).bind fun g=>
 (aZ c).bind fun _=>
 (shift c 1).bind fun h=>
 (loadAt C0.P a 3 h).bind fun i=>
 (eP .i64 i).bind fun j=>
 (cV C0.P 40 g (.int .i64 j)).bind fun k=>
 (loadAt C0.P a 26 k).bind fun l=>
 (cD l).bind fun(i64,m,n)=>
 (storeAt C0.P (St.push a (.cells 26 true [(.int .i64 0),(.str []),(.int .i64 0)])) 26 (.ref (St.next a) 0) (.agg [(.int .i64 i64),(.str m),(.int .i64 n)])).bind fun b=>
 (aZ c).bind fun _=>
 (shift c 5).bind fun o=>
 (loadAt C0.P b 35 o).bind fun p=>
 (eP .i64 p).bind fun q=>
 if (q = 0) then
  (loadAt C0.P b 3 (.ref (St.next a) 0)).bind fun r=>
  (eP .i64 r).bind fun s=>
  if(s=d) then
   (loadAt C0.P b 9 (.ref (St.next a) 1)).bind fun t=>
   (iZ t).bind fun u=>
   if(u=e) then
    some (true,b)
   else
    some (false,b)
  else
   some (false,b)
 else
  some (false,b)
theorem mD {R : Nat} (n : Nat) {a : AV} {u : Int} {v : List UInt8} {w : St} {r : Bool × St} (h : kN R a u v w = some r):
 b7 (aR C0 cK R (n+1)) false 38 [a,(.int .i64 u),(.str v)] w (.bool r.1) r.2:=by
 revert h;unfold kN;refine aA fun _o z=>?_;refine aA fun c A=>?_;refine aA fun d B=>?_;refine aA fun _o C=>?_;refine aA fun e D=>?_;refine aA fun Q E=>?_;refine aA fun f F=>?_;obtain rfl:=cA F;refine aA fun g G=>?_;refine aA fun S H=>?_;refine aA fun o I=>?_;obtain⟨i64,i,j⟩:=o;obtain rfl:=bT I;refine aA fun k J=>?_;refine aA fun _o K=>?_;refine aA fun l L=>?_;refine aA fun T M=>?_;refine aA fun m N=>?_;obtain rfl:=cA N;have q9001:=aK M<|aK L<|aK (cC K)<|aK (aP J)<|aK H<|aK G<|aK E<|aK D<|aK (cC C)<|aK B<|aK A<|aK (cC z) gD
 refine bD (fun b=>?_) (fun b=>?_)
 ·refine aA fun U q=>?_;refine aA fun s O=>?_;obtain rfl:=cA O;refine bD (fun p=>?_) (fun p=>?_)
  ·refine aA fun V x=>?_;refine aA fun y P=>?_;obtain rfl:=dY P;refine bD (fun t=>?_) (fun t=>?_)
   ·intro h;obtain rfl:=cB h;exact aL (hs:=[.run 2,.val a,.val c,.val d,.run 1,.val a,.val e,.val (.int .i64 f),.val g,.val (eZ i64 i j),.run 1,.bM AV.undef k,.run 1,.val a,.val l,.val (.int .i64 m),.dec true,.run 2,.val (.int .i64 s),.run 1,.dec true,.run 3,.val (.str y),.run 1,.dec true,.run 2]) (by kernel_rfl) (aK (mK t)<|aK x<|aK (gA p)<|aK q<|aK (gA b) q9001) (by kernel_rfl) (by kernel_rfl)
   ·intro h;obtain rfl:=cB h;exact aL (hs:=[.run 2,.val a,.val c,.val d,.run 1,.val a,.val e,.val (.int .i64 f),.val g,.val (eZ i64 i j),.run 1,.bM AV.undef k,.run 1,.val a,.val l,.val (.int .i64 m),.dec true,.run 2,.val (.int .i64 s),.run 1,.dec true,.run 3,.val (.str y),.run 1,.dec false,.run 2]) (by kernel_rfl) (aK (kY t)<|aK x<|aK (gA p)<|aK q<|aK (gA b) q9001) (by kernel_rfl) (by kernel_rfl)
  ·intro h;obtain rfl:=cB h;exact aL (hs:=[.run 2,.val a,.val c,.val d,.run 1,.val a,.val e,.val (.int .i64 f),.val g,.val (eZ i64 i j),.run 1,.bM AV.undef k,.run 1,.val a,.val l,.val (.int .i64 m),.dec true,.run 2,.val (.int .i64 s),.run 1,.dec false,.run 4]) (by kernel_rfl) (aK (eW p)<|aK q<|aK (gA b) q9001) (by kernel_rfl) (by kernel_rfl)
 ·intro h;obtain rfl:=cB h;exact aL (hs:=[.run 2,.val a,.val c,.val d,.run 1,.val a,.val e,.val (.int .i64 f),.val g,.val (eZ i64 i j),.run 1,.bM AV.undef k,.run 1,.val a,.val l,.val (.int .i64 m),.dec false,.run 5]) (by kernel_rfl) (aK (eW b) q9001) (by kernel_rfl) (by kernel_rfl)
noncomputable def bK (R:Nat)(a:AV)(d:List UInt8)(e:St):Option (Bool×St):=
 (kN R a 2 d e).bind fun(f,b)=>
 if f=true then
  (aZ a).bind fun _=>
  (shift a 1).bind fun c=>
  (loadAt C0.P b 3 c).bind fun g=>
  (eP .i64 g).bind fun h=>
  (aZ a).bind fun _=>
  (storeAt C0.P b 3 c (.int .i64 (IntKind.wrap .i64 (h+1)))).bind fun i=>
  some (true,i)
 else
  some (false,b)
theorem bA {R:Nat}(n:Nat){a:AV}{c:List UInt8}{d:St}{r:Bool×St}(h:bK R a c d=some r):
 b7 (aR C0 cK R (n+2)) false 22 [a,(.str c)] d (.bool r.1) r.2:=by
 revert h;unfold bK;refine aA fun o e=>?_;obtain⟨t,f⟩:=o;refine bD (fun b=>?_) (fun b=>?_)
 ·subst b;refine aA fun _o j=>?_;refine aA fun g i=>?_;refine aA fun u k=>?_;refine aA fun l m=>?_;obtain rfl:=cA m;refine aA fun _o p=>?_;refine aA fun q s=>?_;intro h;obtain rfl:=cB h;exact aL (hs:=[.run 3,.call (.bool true) f,.run 1,.aJ,.run 1,.val a,.val g,.val (.int .i64 l),.run 1,.val a,.val g,.bM AV.undef q,.run 1]) (by kernel_rfl) (aK (aP s)<|aK i<|aK (cC p)<|aK k<|aK i<|aK (cC j)<|aK (mD n e) gD) (by kernel_rfl) (by kernel_rfl)
 ·obtain rfl:=bF b;intro h;obtain rfl:=cB h;exact aL (hs:=[.run 3,.call (.bool false) f,.run 1,.aJ,.run 1]) (by kernel_rfl) (aK (mD n e) gD) (by kernel_rfl) (by kernel_rfl)
noncomputable def cI (R:Nat)(a:AV)(d:List UInt8)(e:St):Option (Bool×St):=
 (kN R a 6 d e).bind fun(f,b)=>
 if f=true then
  (aZ a).bind fun _=>
  (shift a 1).bind fun c=>
  (loadAt C0.P b 3 c).bind fun g=>
  (eP .i64 g).bind fun h=>
  (aZ a).bind fun _=>
  (storeAt C0.P b 3 c (.int .i64 (IntKind.wrap .i64 (h+1)))).bind fun i=>
  some (true,i)
 else
  some (false,b)
theorem aY {R:Nat}(n:Nat){a:AV}{c:List UInt8}{d:St}{r:Bool×St}(h:cI R a c d=some r):
 b7 (aR C0 cK R (n+2)) false 39 [a,(.str c)] d (.bool r.1) r.2:=by
 revert h;unfold cI;refine aA fun o e=>?_;obtain⟨t,f⟩:=o;refine bD (fun b=>?_) (fun b=>?_)
 ·subst b;refine aA fun _o j=>?_;refine aA fun g i=>?_;refine aA fun u k=>?_;refine aA fun l m=>?_;obtain rfl:=cA m;refine aA fun _o p=>?_;refine aA fun q s=>?_;intro h;obtain rfl:=cB h;exact aL (hs:=[.run 3,.call (.bool true) f,.run 1,.aJ,.run 1,.val a,.val g,.val (.int .i64 l),.run 1,.val a,.val g,.bM AV.undef q,.run 1]) (by kernel_rfl) (aK (aP s)<|aK i<|aK (cC p)<|aK k<|aK i<|aK (cC j)<|aK (mD n e) gD) (by kernel_rfl) (by kernel_rfl)
 ·obtain rfl:=bF b;intro h;obtain rfl:=cB h;exact aL (hs:=[.run 3,.call (.bool false) f,.run 1,.aJ,.run 1]) (by kernel_rfl) (aK (mD n e) gD) (by kernel_rfl) (by kernel_rfl)
noncomputable def cE (R:Nat)(a:AV)(b:St):Option (List UInt8×St):=
 (aZ a).bind fun _=>
 (shift a 0).bind fun f=>
 (loadAt C0.P b 40 f).bind fun g=>
 (aZ a).bind fun _=>
 (shift a 1).bind fun d=>
 (loadAt C0.P b 3 d).bind fun h=>
 (eP .i64 h).bind fun i=>
 (cV C0.P 40 g (.int .i64 i)).bind fun j=>
 (loadAt C0.P b 26 j).bind fun k=>
 (cD k).bind fun(l,m,n)=>
 (storeAt C0.P (St.push b (.cells 26 true [(.int .i64 0),(.str []),(.int .i64 0)])) 26 (.ref (St.next b) 0) (.agg [(.int .i64 l),(.str m),(.int .i64 n)])).bind fun c=>
 (aZ a).bind fun _=>
 (shift a 5).bind fun o=>
 (loadAt C0.P c 35 o).bind fun p=>
 (eP .i64 p).bind fun q=>
 if(q=0) then
  (loadAt C0.P c 3 (.ref (St.next b) 0)).bind fun r=>
  (eP .i64 r).bind fun s=>
  if(s=1) then
   (aZ a).bind fun _=>
   (loadAt C0.P c 3 d).bind fun t=>
   (eP .i64 t).bind fun u=>
   (aZ a).bind fun _=>
   (storeAt C0.P c 3 d (.int .i64 (IntKind.wrap .i64 (u+1)))).bind fun e=>
   (loadAt C0.P e 9 (.ref (St.next b) 1)).bind fun v=>
   (iZ v).bind fun w=>
   some (w,e)
  else
   (bJ R a 120 c).bind fun x=>
   some ([],x)
 else
  (bJ R a 120 c).bind fun y=>
  some ([],y)
theorem cG {R:Nat}(n:Nat){a:AV}{t:St}{r:List UInt8×St}(h:cE R a t=some r):
 b7 (aR C0 cK R (n+2)) false 25 [a] t (.str r.1) r.2:=by
 revert h;unfold cE;refine aA fun _o w=>?_;refine aA fun d x=>?_;refine aA fun e y=>?_;refine aA fun _o z=>?_;refine aA fun b f=>?_;refine aA fun a0 A=>?_;refine aA fun g B=>?_;obtain rfl:=cA B;refine aA fun i C=>?_;refine aA fun a1 D=>?_;refine aA fun o E=>?_;obtain⟨j,k,l⟩:=o;obtain rfl:=bT E;refine aA fun m F=>?_;refine aA fun _o G=>?_;refine aA fun p H=>?_;refine aA fun a2 I=>?_;refine aA fun q J=>?_;obtain rfl:=cA J;have q9002:=aK I<|aK H<|aK (cC G)<|aK (aP F)<|aK D<|aK C<|aK A<|aK f<|aK (cC z)<|aK y<|aK x<|aK (cC w) gD
 refine bD (fun c=>?_) (fun c=>?_)
 ·refine aA fun a3 u=>?_;refine aA fun v K=>?_;obtain rfl:=cA K;refine bD (fun s=>?_) (fun s=>?_)
  ·refine aA fun _o L=>?_;refine aA fun a4 M=>?_;refine aA fun N O=>?_;obtain rfl:=cA O;refine aA fun _o P=>?_;refine aA fun Q S=>?_;refine aA fun a5 T=>?_;refine aA fun U V=>?_;obtain rfl:=dY V;intro h;obtain rfl:=cB h;exact aL (hs:=[.run 2,.val a,.val d,.val e,.run 1,.val a,.val b,.val (.int .i64 g),.val i,.val (eZ j k l),.run 1,.bM AV.undef m,.run 1,.val a,.val p,.val (.int .i64 q),.dec false,.run 2,.val (.int .i64 v),.dec false,.run 1,.aJ,.run 1,.val a,.val b,.val (.int .i64 N),.run 1,.val a,.val b,.bM AV.undef Q,.run 1,.val (.str U),.run 1]) (by kernel_rfl) (aK T<|aK (aP S)<|aK f<|aK (cC P)<|aK M<|aK f<|aK (cC L)<|aK (vR s)<|aK u<|aK (vR c) q9002) (by kernel_rfl) (by kernel_rfl)
  ·refine aA fun W X=>?_;intro h;obtain rfl:=cB h;exact aL (hs:=[.run 2,.val a,.val d,.val e,.run 1,.val a,.val b,.val (.int .i64 g),.val i,.val (eZ j k l),.run 1,.bM AV.undef m,.run 1,.val a,.val p,.val (.int .i64 q),.dec false,.run 2,.val (.int .i64 v),.dec true,.run 1,.aJ,.run 1,.call (.tuple []) W,.run 1]) (by kernel_rfl) (aK (bO n X)<|aK (B7 s)<|aK u<|aK (vR c) q9002) (by kernel_rfl) (by kernel_rfl)
 ·refine aA fun Y Z=>?_;intro h;obtain rfl:=cB h;exact aL (hs:=[.run 2,.val a,.val d,.val e,.run 1,.val a,.val b,.val (.int .i64 g),.val i,.val (eZ j k l),.run 1,.bM AV.undef m,.run 1,.val a,.val p,.val (.int .i64 q),.dec true,.run 2,.aJ,.run 1,.call (.tuple []) Y,.run 1]) (by kernel_rfl) (aK (bO n Z)<|aK (B7 c) q9002) (by kernel_rfl) (by kernel_rfl)
noncomputable def fK (R:Nat)(a:AV):Nat→List UInt8→St→Option ((List UInt8×St))
 | 0,_,_=>none
 | r + 1, b, d =>
   (cI R a [46] d).bind fun(e,c)=>
   if e=true then
    (cE R a c).bind fun(f,g)=>
    (oC [46] f).bind fun h=>
    (oC b h).bind fun i=>
    fK R a r i g
   else
    some (b,c)
noncomputable def l9 (o:(List UInt8×St)):cZ×List (Nat×AV)×St:=match o with
 | (a0,a1)=>((.exit 0),[(3,.str a0)],a1)
theorem tC (R n:Nat)(d:AV):∀(r:Nat) (a:List UInt8) (b:St) (o:(List UInt8×St)),fK R d r a b=some o →
 cM 14 (lO (fun fr k=>bN C0 (aR C0 cK R (n+2)) 43 R none (aQ C0.P 43 [1,1,0,0,0]) fr k) r) (bG (aQ C0.P 43 [1,1,0,0,0])) [(0,d),(3,(.str a))] b (l9 o).1 (l9 o).2.1 (l9 o).2.2:=by
 intro r
 induction r with
 | zero=>intro a b o h; exact nomatch h
 | succ r ih =>
   intro a b o
   unfold fK;refine aA fun o e=>?_;obtain⟨s,f⟩:=o;refine bD (fun c=>?_) (fun c=>?_)
   ·subst c;refine aA fun o j=>?_;obtain⟨l,g⟩:=o;refine aA fun m p=>?_;refine aA fun i q=>?_;intro h;exact dP (aO (hs:=[.run 1,.call (.bool true) f,.aJ,.aJ,.run 2,.call (.str l) g,.val (.str m),.val (.str i),.run 1]) (want:=[0,3]) (by kernel_rfl) (.cons (jF q)<|.cons (jF p)<|.cons (cG n j)<|.cons (aY n e) .nil)) (ih i g _ h)
   ·obtain rfl:=bF c;intro h;obtain rfl:=cB h;exact cF (aO (hs:=[.run 1,.call (.bool false) f,.aJ]) (want:=[3]) (by kernel_rfl) (.cons (aY n e) .nil)) (by kernel_rfl)
noncomputable def jZ (R:Nat)(a:AV)(b:List UInt8)(c:St):Option (List UInt8×St):=
 (fK R a R b c).bind fun(d,e)=>
 some (d,e)
theorem uE {R:Nat}(n:Nat){a:AV}{b:List UInt8}{c:St}{r:List UInt8×St}(h:jZ R a b c=some r):
 cM 14 (bN C0 (aR C0 cK R (n+2)) 43 R none (aQ C0.P 43 [1,1,0])) (bG (aQ C0.P 43 [1,1,0])) [(0,a),(3,(.str b))] c .normal [(3,.str r.1)] r.2:=by
 revert h;unfold jZ;refine aA fun o d=>?_;obtain⟨e,f⟩:=o;intro h;obtain rfl:=cB h;exact aO (hs:=[.aJ,.abs [0,3] (.exit 0) [(3,(.str e))] f]) (want:=[3]) (by kernel_rfl) (aK (cW (tC R n a R b c _ d)) gD)
noncomputable def eY (R:Nat)(a:AV)(b:St):Option (List UInt8×St):=
 (cE R a b).bind fun(c,d)=>
 (jZ R a c d).bind fun(e,f)=>
 some (e,f)
theorem j0 {R:Nat}(n:Nat){a:AV}{b:St}{r:List UInt8×St}(h:eY R a b=some r):
 b7 (aR C0 cK R (n+3)) false 43 [a] b (.str r.1) r.2:=by
 revert h;unfold eY;refine aA fun o c=>?_;obtain⟨d,e⟩:=o;refine aA fun o f=>?_;obtain⟨g,i⟩:=o;intro h;obtain rfl:=cB h;exact aL (hs:=[.run 2,.call (.str d) e,.run 1,.rX [0,3] .normal [(3,(.str g))] i,.run 2]) (by kernel_rfl) (aK (uE n f)<|aK (cG n c) gD) (by kernel_rfl) (by kernel_rfl)
noncomputable def iU (R:Nat)(a:AV)(d:AV)(e:Nat)(b:St):Option (St):=
 (bJ R a 3 b).bind fun c=>
 some c
theorem sJ {R:Nat}(n:Nat){a:AV}{b:AV}{c:Nat}{d:St}{r:St}(h:iU R a b c d=some r):
 cM 20 (bN C0 (aR C0 cK R (n+1)) 42 R none (aQ C0.P 42 [1,0,1,1])) (bG (aQ C0.P 42 [1,0,1,1])) [(0,a),(3,b),(4,(.ref c 0)),(16,(.bool true))] d .normal [] r:=by
 revert h;unfold iU;refine aA fun e f=>?_;intro h;obtain rfl:=cB h;exact aO (hs:=[.aJ,.run 1,.call (.tuple []) e]) (want:=[]) (by kernel_rfl) (aK (bO n f) gD)
noncomputable def iK (R:Nat)(a:AV)(b:AV)(c:Nat):Option (Unit):=
 some ()
theorem rJ {R:Nat}(n:Nat){a:AV}{b:AV}{c:Nat}(d:St){r:Unit}(h:iK R a b c=some r):
 cM 20 (bN C0 (aR C0 cK R (n+1)) 42 R none (aQ C0.P 42 [1,0,1,1])) (bG (aQ C0.P 42 [1,0,1,1])) [(0,a),(3,b),(4,(.ref c 0)),(16,(.bool false))] d .normal [] d:=by
 revert h;unfold iK;intro h;obtain rfl:=cB h;exact aO (hs:=[.aJ]) (want:=[]) (by kernel_rfl) .nil
noncomputable def bV (R:Nat)(b:AV)(i:Int)(j:List UInt8)(k:Int)(l:Bool)(m:Int)(n:List UInt8)(o:AV)(p:AV)(q:AV)(r:AV)(s:St):Option (Int×List UInt8×Int×Bool×Int×List UInt8×AV×AV×AV×AV×St):=
 (qP 32 (.agg [(.int .i64 i),(.str j),(.int .i64 k),(.bool l),(.int .i64 m),(.str n),o,p,q,r]) s).bind fun(c,a)=>
 (aZ b).bind fun _=>
 (shift b 3).bind fun e=>
 (loadAt C0.P (St.push a (.cells 32 true [(.int .i64 0),(.str []),(.int .i64 0),(.bool false),(.int .i64 0),(.str []),AV.aB,AV.aB,AV.aB,AV.aB])) 3 e).bind fun t=>
 (eP .i64 t).bind fun u=>
 (aZ b).bind fun _=>
 (storeAt C0.P (St.push a (.cells 32 true [(.int .i64 0),(.str []),(.int .i64 0),(.bool false),(.int .i64 0),(.str []),AV.aB,AV.aB,AV.aB,AV.aB])) 3 e (.int .i64 (IntKind.wrap .i64 (u+1)))).bind fun d=>
 (aZ b).bind fun _=>
 (loadAt C0.P d 3 e).bind fun v=>
 (eP .i64 v).bind fun w=>
 if(w>200) then
  (iU R b c (St.next a) d).bind fun f=>
  (loadAt C0.P f 32 c).bind fun x=>
  (aI x).bind fun(y,z,A,B,C,D,E,F,G,H)=>
  (storeAt C0.P f 32 (.ref (St.next a) 0) (.agg [(.int .i64 y),(.str z),(.int .i64 A),(.bool B),(.int .i64 C),(.str D),E,F,G,H])).bind fun g=>
  (loadAt C0.P g 32 (.ref (St.next a) 0)).bind fun I=>
  (aI I).bind fun(J,K,L,M,N,O,Q,S,T,U)=>
  some (J,K,L,M,N,O,Q,S,T,U,g)
 else
  (iK R b c (St.next a)).bind fun _=>
  (loadAt C0.P d 32 c).bind fun V=>
  (aI V).bind fun(W,X,Y,Z,a0,a1,a2,a3,a4,a5)=>
  (storeAt C0.P d 32 (.ref (St.next a) 0) (.agg [(.int .i64 W),(.str X),(.int .i64 Y),(.bool Z),(.int .i64 a0),(.str a1),a2,a3,a4,a5])).bind fun h=>
  (loadAt C0.P h 32 (.ref (St.next a) 0)).bind fun a6=>
  (aI a6).bind fun(a7,a8,a9,b0,b1,b2,b3,b4,b5,b6)=>
  some (a7,a8,a9,b0,b1,b2,b3,b4,b5,b6,h)
theorem bX {R:Nat}(n:Nat){a:AV}{f:Int}{g:List UInt8}{i:Int}{j:Bool}{k:Int}{l:List UInt8}{m:AV}{p:AV}{q:AV}{s:AV}{t:St}{r:Int×List UInt8×Int×Bool×Int×List UInt8×AV×AV×AV×AV×St}(h:bV R a f g i j k l m p q s t=some r):
 b7 (aR C0 cK R (n+2)) false 42 [a,(.agg [(.int .i64 f),(.str g),(.int .i64 i),(.bool j),(.int .i64 k),(.str l),m,p,q,s])] t (.agg [.int .i64 r.1,.str r.2.1,.int .i64 r.2.2.1,.bool r.2.2.2.1,.int .i64 r.2.2.2.2.1,.str r.2.2.2.2.2.1,r.2.2.2.2.2.2.1,r.2.2.2.2.2.2.2.1,r.2.2.2.2.2.2.2.2.1,r.2.2.2.2.2.2.2.2.2.1]) r.2.2.2.2.2.2.2.2.2.2:=by
 revert h;unfold bV;refine aA fun o y=>?_;obtain⟨u,v⟩:=o;refine aA fun _o z=>?_;refine aA fun b d=>?_;refine aA fun d8 A=>?_;refine aA fun w B=>?_;obtain rfl:=cA B;refine aA fun _o C=>?_;refine aA fun c D=>?_;refine aA fun _o E=>?_;refine aA fun d9 F=>?_;refine aA fun x G=>?_;obtain rfl:=cA G;have q9003:=aK F<|aK d<|aK (cC E)<|aK (aP D)<|aK d<|aK (cC C)<|aK A<|aK d<|aK (cC z)<|aK (xK y) gD
 refine bD (fun e=>?_) (fun e=>?_)
 ·refine aA fun H I=>?_;refine aA fun e0 J=>?_;refine aA fun o K=>?_;obtain⟨L,M,N,O,P,Q,S,T,U,V⟩:=o;obtain rfl:=aH K;refine aA fun W X=>?_;refine aA fun e1 Y=>?_;refine aA fun o Z=>?_;obtain⟨a0,a1,a2,a3,a4,a5,a6,a7,a8,a9⟩:=o;obtain rfl:=aH Z;intro h;obtain rfl:=cB h;exact aL (hs:=[.bM u v,.run 2,.val a,.val b,.val (.int .i64 w),.run 1,.val a,.val b,.bM AV.undef c,.run 1,.val a,.val b,.val (.int .i64 x),.dec true,.eE [0,3,4,16] .normal [] H,.val (aN L M N O P Q S T U V),.bM AV.undef W,.val (aN a0 a1 a2 a3 a4 a5 a6 a7 a8 a9)]) (by kernel_rfl) (aK Y<|aK (aP X)<|aK J<|aK (sJ n I)<|aK (decide_eq_true e) q9003) (by kernel_rfl) (by kernel_rfl)
 ·refine aA fun _o b0=>?_;refine aA fun e2 b1=>?_;refine aA fun o b2=>?_;obtain⟨b3,b4,b5,b6,b8,b9,c0,c1,c2,c3⟩:=o;obtain rfl:=aH b2;refine aA fun c4 c5=>?_;refine aA fun e3 c6=>?_;refine aA fun o c7=>?_;obtain⟨c8,c9,d0,d1,d2,d3,d4,d5,d6,d7⟩:=o;obtain rfl:=aH c7;intro h;obtain rfl:=cB h;exact aL (hs:=[.bM u v,.run 2,.val a,.val b,.val (.int .i64 w),.run 1,.val a,.val b,.bM AV.undef c,.run 1,.val a,.val b,.val (.int .i64 x),.dec false,.eE [0,3,4,16] .normal [] c,.val (aN b3 b4 b5 b6 b8 b9 c0 c1 c2 c3),.bM AV.undef c4,.val (aN c8 c9 d0 d1 d2 d3 d4 d5 d6 d7)]) (by kernel_rfl) (aK c6<|aK (aP c5)<|aK b1<|aK (rJ n c b0)<|aK (decide_eq_false e) q9003) (by kernel_rfl) (by kernel_rfl)
noncomputable def jL (R:Nat)(b:AV)(a:St):Option (St):=
 (loadAt C0.P a 49 b).bind fun c=>
 (bJ R c 3 a).bind fun d=>
 some d
theorem sZ {R:Nat}(n:Nat){a:AV}{b:St}{r:St}(h:jL R a b=some r):
 cM 18 (bN C0 (aR C0 cK R (n+1)) 52 R none (aQ C0.P 52 [1,0,1,1])) (bG (aQ C0.P 52 [1,0,1,1])) [(1,a),(14,(.bool true))] b .normal [] r:=by
 revert h;unfold jL;refine aA fun c d=>?_;refine aA fun e f=>?_;intro h;obtain rfl:=cB h;exact aO (hs:=[.aJ,.val c,.call (.tuple []) e]) (want:=[]) (by kernel_rfl) (aK (bO n f)<|aK d gD)
noncomputable def iR (R:Nat)(a:AV):Option (Unit):=
 some ()
theorem rY {R:Nat}(n:Nat){a:AV}(b:St){r:Unit}(h:iR R a=some r):
 cM 18 (bN C0 (aR C0 cK R (n+1)) 52 R none (aQ C0.P 52 [1,0,1,1])) (bG (aQ C0.P 52 [1,0,1,1])) [(1,a),(14,(.bool false))] b .normal [] b:=by
 revert h;unfold iR;intro h;obtain rfl:=cB h;exact aO (hs:=[.aJ]) (want:=[]) (by kernel_rfl) .nil
noncomputable def jB (R:Nat)(g:AV)(h:St):Option (AV×St):=
 (qP 49 g h).bind fun(a,c)=>
 (loadAt C0.P c 49 a).bind fun d=>
 (aZ d).bind fun _=>
 (shift d 2).bind fun e=>
 (loadAt C0.P c 3 e).bind fun i=>
 (eP .i64 i).bind fun j=>
 (aZ d).bind fun _=>
 (storeAt C0.P c 3 e (.int .i64 (IntKind.wrap .i64 (j+1)))).bind fun b=>
 (loadAt C0.P b 49 a).bind fun f=>
 (aZ f).bind fun _=>
 (shift f 2).bind fun k=>
 (loadAt C0.P b 3 k).bind fun l=>
 (eP .i64 l).bind fun m=>
 if(m>24) then
  (jL R a b).bind fun n=>
  some (a,n)
 else
  (iR R a).bind fun _=>
  some (a,b)
theorem qT {R:Nat}(n:Nat){f:AV}{g:St}{r:AV×St}(h:jB R f g=some r):
 b7 (aR C0 cK R (n+2)) false 52 [f] g (.func (.func 64) [] [r.1]) r.2:=by
 revert h;unfold jB;refine aA fun o q=>?_;obtain⟨i,j⟩:=o;refine aA fun a s=>?_;refine aA fun _o t=>?_;refine aA fun b k=>?_;refine aA fun G u=>?_;refine aA fun l v=>?_;obtain rfl:=cA v;refine aA fun _o w=>?_;refine aA fun c x=>?_;refine aA fun d y=>?_;refine aA fun _o z=>?_;refine aA fun m A=>?_;refine aA fun H B=>?_;refine aA fun p C=>?_;obtain rfl:=cA C;have q9004:=aK B<|aK A<|aK (cC z)<|aK y<|aK (aP x)<|aK k<|aK (cC w)<|aK u<|aK k<|aK (cC t)<|aK s<|aK (xK q) gD
 refine bD (fun e=>?_) (fun e=>?_)
 ·refine aA fun D E=>?_;intro h;obtain rfl:=cB h;exact aL (hs:=[.bM i j,.run 1,.val a,.val a,.val b,.val (.int .i64 l),.run 1,.val a,.val b,.bM AV.undef c,.val d,.val d,.val m,.val (.int .i64 p),.dec true,.eE [1,14] .normal [] D,.run 2]) (by kernel_rfl) (aK (sZ n E)<|aK (decide_eq_true e) q9004) (by kernel_rfl) (by kernel_rfl)
 ·refine aA fun _o F=>?_;intro h;obtain rfl:=cB h;exact aL (hs:=[.bM i j,.run 1,.val a,.val a,.val b,.val (.int .i64 l),.run 1,.val a,.val b,.bM AV.undef c,.val d,.val d,.val m,.val (.int .i64 p),.dec false,.eE [1,14] .normal [] c,.run 2]) (by kernel_rfl) (aK (rY n c F)<|aK (decide_eq_false e) q9004) (by kernel_rfl) (by kernel_rfl)
noncomputable def l6 (R:Nat)(a:List UInt8):Option (Bool):=
 some true
theorem vS {R:Nat}(n:Nat){a:List UInt8}(b:St){r:Bool}(h:l6 R a=some r):
 cM 29 (bN C0 (aR C0 cK R n) 7 R none (aQ C0.P 7 [1,1,0,1,0,1,0,0,1])) (bG (aQ C0.P 7 [1,1,0,1,0,1,0,0,1])) [(16,(.str a)),(17,(.bool true))] b .normal [(17,.bool r)] b:=by
 revert h;unfold l6;intro h;obtain rfl:=cB h;exact aO (hs:=[.aJ]) (want:=[17]) (by kernel_rfl) .nil
noncomputable def iI (R:Nat)(a:List UInt8):Option (Bool):=
 some true
theorem oA {R:Nat}(n:Nat){a:List UInt8}(b:St){r:Bool}(h:iI R a=some r):
 cM 29 (bN C0 (aR C0 cK R n) 7 R none (aQ C0.P 7 [1,1,0,1,0,1,0,1,1,0,1])) (bG (aQ C0.P 7 [1,1,0,1,0,1,0,1,1,0,1])) [(16,(.str a)),(24,(.bool true))] b .normal [(24,.bool r)] b:=by
 revert h;unfold iI;intro h;obtain rfl:=cB h;exact aO (hs:=[.aJ]) (want:=[24]) (by kernel_rfl) .nil
noncomputable def gL (R:Nat)(a:List UInt8):Option (Bool):=
 if(a=[45]) then
  some true
 else
  some false
theorem n4 {R:Nat}(n:Nat){b:List UInt8}(c:St){r:Bool}(h:gL R b=some r):
 cM 29 (bN C0 (aR C0 cK R n) 7 R none (aQ C0.P 7 [1,1,0,1,0,1,0,1,1,0,1])) (bG (aQ C0.P 7 [1,1,0,1,0,1,0,1,1,0,1])) [(16,(.str b)),(24,(.bool false))] c .normal [(24,.bool r)] c:=by
 revert h;unfold gL;refine bD (fun a=>?_) (fun a=>?_)
 ·intro h;obtain rfl:=cB h;exact aO (hs:=[.aJ,.dec true,.run 1]) (want:=[24]) (by kernel_rfl) (aK (mK a) gD)
 ·intro h;obtain rfl:=cB h;exact aO (hs:=[.aJ,.dec false,.run 1]) (want:=[24]) (by kernel_rfl) (aK (kY a) gD)
noncomputable def jW (R:Nat)(a:List UInt8):Option (Bool):=
 if(a=[60,62]) then
  some true
 else
  if(a=[60]) then
   some true
  else
   if(a=[60,61]) then
    some true
   else
    if(a=[62]) then
     some true
    else
     if(a=[62,61]) then
      some true
     else
      some false
theorem u0 {R : Nat} (n : Nat) {f : List UInt8} (g : St) {r : Bool} (h : jW R f = some r):
 cM 29 (bN C0 (aR C0 cK R n) 7 R none (aQ C0.P 7 [1,1,0,1,0,1,0,0,1])) (bG (aQ C0.P 7 [1,1,0,1,0,1,0,0,1])) [(16,(.str f)),(17,(.bool false))] g .normal [(17,.bool r)] g:=by
 revert h;unfold jW;refine bD (fun c=>?_) (fun c=>?_)
 ·intro h;obtain rfl:=cB h;exact aO (hs:=[.aJ,.dec true,.run 1,.aJ]) (want:=[17]) (by kernel_rfl) (aK (mK c) gD)
 ·have q9005:=aK (kY c) gD
  refine bD (fun a=>?_) (fun a=>?_)
  ·intro h;obtain rfl:=cB h;exact aO (hs:=[.aJ,.dec false,.run 1,.aJ,.dec true,.run 1,.aJ]) (want:=[17]) (by kernel_rfl) (aK (mK a) q9005)
  ·refine bD (fun d=>?_) (fun d=>?_)
   ·intro h;obtain rfl:=cB h;exact aO (hs:=[.aJ,.dec false,.run 1,.aJ,.dec false,.run 1,.aJ,.dec true,.run 1,.aJ]) (want:=[17]) (by kernel_rfl) (aK (mK d)<|aK (kY a) q9005)
   ·have q9006:=aK (kY d)<|aK (kY a) q9005
    refine bD (fun b=>?_) (fun b=>?_)
    ·intro h;obtain rfl:=cB h;exact aO (hs:=[.aJ,.dec false,.run 1,.aJ,.dec false,.run 1,.aJ,.dec false,.run 1,.aJ,.dec true,.run 1,.aJ]) (want:=[17]) (by kernel_rfl) (aK (mK b) q9006)
    ·refine bD (fun e=>?_) (fun e=>?_)
     ·intro h;obtain rfl:=cB h;exact aO (hs:=[.aJ,.dec false,.run 1,.aJ,.dec false,.run 1,.aJ,.dec false,.run 1,.aJ,.dec false,.run 1,.aJ,.dec true,.run 1]) (want:=[17]) (by kernel_rfl) (aK (mK e)<|aK (kY b) q9006)
     ·intro h;obtain rfl:=cB h;exact aO (hs:=[.aJ,.dec false,.run 1,.aJ,.dec false,.run 1,.aJ,.dec false,.run 1,.aJ,.dec false,.run 1,.aJ,.dec false,.run 1]) (want:=[17]) (by kernel_rfl) (aK (kY e)<|aK (kY b) q9006)
noncomputable def sY (R:Nat)(b:Int)(c:List UInt8)(d:Int)(a:St):Option (Int×St):=
 (loadAt C0.P (St.push a (.cells 26 true [(.int .i64 b),(.str c),(.int .i64 d)])) 3 (.ref (St.next a) 0)).bind fun h=>
 (eP .i64 h).bind fun f=>
 if (f = 2) then
  (loadAt C0.P (St.push a (.cells 26 true [(.int .i64 b),(.str c),(.int .i64 d)])) 9 (.ref (St.next a) 1)).bind fun i=>
  (iZ i).bind fun g=>
  if(g=[79,82]) then
   some (0,(St.push a (.cells 26 true [(.int .i64 b),(.str c),(.int .i64 d)])))
  else
   if(g=[65,78,68]) then
    some (1,(St.push a (.cells 26 true [(.int .i64 b),(.str c),(.int .i64 d)])))
   else
    some ((-1),(St.push a (.cells 26 true [(.int .i64 b),(.str c),(.int .i64 d)])))
 else
  if (f = 6) then
   (loadAt C0.P (St.push a (.cells 26 true [(.int .i64 b),(.str c),(.int .i64 d)])) 9 (.ref (St.next a) 1)).bind fun j=>
   (iZ j).bind fun e=>
   if (e = [61]) then
    (l6 R e).bind fun k=>
    if k=true then
     some (3,(St.push a (.cells 26 true [(.int .i64 b),(.str c),(.int .i64 d)])))
    else
     if (e = [43]) then
      (iI R e).bind fun l=>
      if l=true then
       some (4,(St.push a (.cells 26 true [(.int .i64 b),(.str c),(.int .i64 d)])))
      else
       if(e=[42]) then
        some (5,(St.push a (.cells 26 true [(.int .i64 b),(.str c),(.int .i64 d)])))
       else
        some ((-1),(St.push a (.cells 26 true [(.int .i64 b),(.str c),(.int .i64 d)])))
     else
      (gL R e).bind fun m=>
      if m=true then
       some (4,(St.push a (.cells 26 true [(.int .i64 b),(.str c),(.int .i64 d)])))
      else
       if(e=[42]) then
        some (5,(St.push a (.cells 26 true [(.int .i64 b),(.str c),(.int .i64 d)])))
       else
        some ((-1),(St.push a (.cells 26 true [(.int .i64 b),(.str c),(.int .i64 d)])))
   else
    (jW R e).bind fun n=>
    if n=true then
     some (3,(St.push a (.cells 26 true [(.int .i64 b),(.str c),(.int .i64 d)])))
    else
     if (e = [43]) then
      (iI R e).bind fun o=>
      if o=true then
       some (4,(St.push a (.cells 26 true [(.int .i64 b),(.str c),(.int .i64 d)])))
      else
       if(e=[42]) then
        some (5,(St.push a (.cells 26 true [(.int .i64 b),(.str c),(.int .i64 d)])))
       else
        some ((-1),(St.push a (.cells 26 true [(.int .i64 b),(.str c),(.int .i64 d)])))
     else
      (gL R e).bind fun p=>
      if p=true then
       some (4,(St.push a (.cells 26 true [(.int .i64 b),(.str c),(.int .i64 d)])))
      else
       if(e=[42]) then
        some (5,(St.push a (.cells 26 true [(.int .i64 b),(.str c),(.int .i64 d)])))
       else
        some ((-1),(St.push a (.cells 26 true [(.int .i64 b),(.str c),(.int .i64 d)])))
  else
   some ((-1),(St.push a (.cells 26 true [(.int .i64 b),(.str c),(.int .i64 d)])))
theorem vJ {R : Nat} (n : Nat) {b : Int} {c : List UInt8} {d : Int} {e : St} {r : Int × St} (h : sY R b c d e = some r):
 b7 (aR C0 cK R (n+1)) false 7 [(.agg [(.int .i64 b),(.str c),(.int .i64 d)])] e (.int .i64 r.1) r.2:=by
 revert h;unfold sY;refine aA fun N j=>?_;refine aA fun a D=>?_;obtain rfl:=cA D;have q9007:=aK j gD
 refine bD (fun g=>?_) (fun g=>?_)
 ·refine aA fun O k=>?_;refine aA fun l E=>?_;obtain rfl:=dY E;refine bD (fun i=>?_) (fun i=>?_)
  ·intro h;obtain rfl:=cB h;exact aL (hs:=[.run 3,.val (.int .i64 a),.dec true,.aJ,.run 1,.val (.str l),.aJ,.dec true,.run 1,.aJ,.run 1]) (by kernel_rfl) (aK (mK i)<|aK k<|aK (gA g) q9007) (by kernel_rfl) (by kernel_rfl)
  ·refine bD (fun m=>?_) (fun m=>?_)
   ·intro h;obtain rfl:=cB h;exact aL (hs:=[.run 3,.val (.int .i64 a),.dec true,.aJ,.run 1,.val (.str l),.aJ,.dec false,.run 1,.aJ,.dec true,.run 1,.aJ,.run 1]) (by kernel_rfl) (aK (mK m)<|aK (kY i)<|aK k<|aK (gA g) q9007) (by kernel_rfl) (by kernel_rfl)
   ·intro h;obtain rfl:=cB h;exact aL (hs:=[.run 3,.val (.int .i64 a),.dec true,.aJ,.run 1,.val (.str l),.aJ,.dec false,.run 1,.aJ,.dec false,.run 1,.aJ,.run 1,.val (.int .i64 a),.dec false,.aJ,.run 1]) (by kernel_rfl) (aK (eW (show ¬ (a=6) by omega))<|aK j<|aK (kY m)<|aK (kY i)<|aK k<|aK (gA g) q9007) (by kernel_rfl) (by kernel_rfl)
 ·have q9008:=aK j<|aK (eW g) q9007
  refine bD (fun o=>?_) (fun o=>?_)
  ·refine aA fun P F => ?_
   refine aA fun f G=>?_;obtain rfl:=dY G;have q9009:=aK F<|aK (gA o) q9008
   refine bD (fun p=>?_) (fun p=>?_)
   ·refine aA fun Q H=>?_;have q9010:=aK (vS n (St.push e (.cells 26 true [(.int .i64 b),(.str c),(.int .i64 d)])) H)<|aK (mK p) q9009
    refine bD (fun q=>?_) (fun q=>?_)
    ·subst q;intro h;obtain rfl:=cB h;exact aL (hs:=[.run 3,.val (.int .i64 a),.dec false,.aJ,.run 1,.val (.int .i64 a),.dec true,.aJ,.run 1,.val (.str f),.aJ,.dec true,.run 1,.eE [16,17] .normal [(17,(.bool true))] (St.push e (.cells 26 true [(.int .i64 b),(.str c),(.int .i64 d)])),.aJ,.run 1]) (by kernel_rfl) (q9010) (by kernel_rfl) (by kernel_rfl)
    ·obtain rfl:=bF q;refine bD (fun s=>?_) (fun s=>?_)
     ·refine aA fun S I=>?_;have q9011:=aK (oA n (St.push e (.cells 26 true [(.int .i64 b),(.str c),(.int .i64 d)])) I)<|aK (mK s) q9010
      refine bD (fun t=>?_) (fun t=>?_)
      ·subst t;intro h;obtain rfl:=cB h;exact aL (hs:=[.run 3,.val (.int .i64 a),.dec false,.aJ,.run 1,.val (.int .i64 a),.dec true,.aJ,.run 1,.val (.str f),.aJ,.dec true,.run 1,.eE [16,17] .normal [(17,(.bool false))] (St.push e (.cells 26 true [(.int .i64 b),(.str c),(.int .i64 d)])),.aJ,.dec true,.run 1,.eE [16,24] .normal [(24,(.bool true))] (St.push e (.cells 26 true [(.int .i64 b),(.str c),(.int .i64 d)])),.aJ,.run 1]) (by kernel_rfl) (q9011) (by kernel_rfl) (by kernel_rfl)
      ·obtain rfl:=bF t;refine bD (fun u=>?_) (fun u=>?_)
       ·intro h;obtain rfl:=cB h;exact aL (hs:=[.run 3,.val (.int .i64 a),.dec false,.aJ,.run 1,.val (.int .i64 a),.dec true,.aJ,.run 1,.val (.str f),.aJ,.dec true,.run 1,.eE [16,17] .normal [(17,(.bool false))] (St.push e (.cells 26 true [(.int .i64 b),(.str c),(.int .i64 d)])),.aJ,.dec true,.run 1,.eE [16,24] .normal [(24,(.bool false))] (St.push e (.cells 26 true [(.int .i64 b),(.str c),(.int .i64 d)])),.aJ,.dec true,.run 1,.aJ,.run 1]) (by kernel_rfl) (aK (mK u) q9011) (by kernel_rfl) (by kernel_rfl)
       ·intro h;obtain rfl:=cB h;exact aL (hs:=[.run 3,.val (.int .i64 a),.dec false,.aJ,.run 1,.val (.int .i64 a),.dec true,.aJ,.run 1,.val (.str f),.aJ,.dec true,.run 1,.eE [16,17] .normal [(17,(.bool false))] (St.push e (.cells 26 true [(.int .i64 b),(.str c),(.int .i64 d)])),.aJ,.dec true,.run 1,.eE [16,24] .normal [(24,(.bool false))] (St.push e (.cells 26 true [(.int .i64 b),(.str c),(.int .i64 d)])),.aJ,.dec false,.run 1,.aJ,.run 1]) (by kernel_rfl) (aK (kY u) q9011) (by kernel_rfl) (by kernel_rfl)
     ·refine aA fun T J=>?_;have q9012:=aK (n4 n (St.push e (.cells 26 true [(.int .i64 b),(.str c),(.int .i64 d)])) J)<|aK (kY s) q9010
      refine bD (fun v=>?_) (fun v=>?_)
      ·subst v;intro h;obtain rfl:=cB h;exact aL (hs:=[.run 3,.val (.int .i64 a),.dec false,.aJ,.run 1,.val (.int .i64 a),.dec true,.aJ,.run 1,.val (.str f),.aJ,.dec true,.run 1,.eE [16,17] .normal [(17,(.bool false))] (St.push e (.cells 26 true [(.int .i64 b),(.str c),(.int .i64 d)])),.aJ,.dec false,.run 1,.eE [16,24] .normal [(24,(.bool true))] (St.push e (.cells 26 true [(.int .i64 b),(.str c),(.int .i64 d)])),.aJ,.run 1]) (by kernel_rfl) (q9012) (by kernel_rfl) (by kernel_rfl)
      ·obtain rfl:=bF v;refine bD (fun w=>?_) (fun w=>?_)
       ·intro h;obtain rfl:=cB h;exact aL (hs:=[.run 3,.val (.int .i64 a),.dec false,.aJ,.run 1,.val (.int .i64 a),.dec true,.aJ,.run 1,.val (.str f),.aJ,.dec true,.run 1,.eE [16,17] .normal [(17,(.bool false))] (St.push e (.cells 26 true [(.int .i64 b),(.str c),(.int .i64 d)])),.aJ,.dec false,.run 1,.eE [16,24] .normal [(24,(.bool false))] (St.push e (.cells 26 true [(.int .i64 b),(.str c),(.int .i64 d)])),.aJ,.dec true,.run 1,.aJ,.run 1]) (by kernel_rfl) (aK (mK w) q9012) (by kernel_rfl) (by kernel_rfl)
       ·intro h;obtain rfl:=cB h;exact aL (hs:=[.run 3,.val (.int .i64 a),.dec false,.aJ,.run 1,.val (.int .i64 a),.dec true,.aJ,.run 1,.val (.str f),.aJ,.dec true,.run 1,.eE [16,17] .normal [(17,(.bool false))] (St.push e (.cells 26 true [(.int .i64 b),(.str c),(.int .i64 d)])),.aJ,.dec false,.run 1,.eE [16,24] .normal [(24,(.bool false))] (St.push e (.cells 26 true [(.int .i64 b),(.str c),(.int .i64 d)])),.aJ,.dec false,.run 1,.aJ,.run 1]) (by kernel_rfl) (aK (kY w) q9012) (by kernel_rfl) (by kernel_rfl)
   ·refine aA fun U K=>?_;have q9013:=aK (u0 n (St.push e (.cells 26 true [(.int .i64 b),(.str c),(.int .i64 d)])) K)<|aK (kY p) q9009
    refine bD (fun x=>?_) (fun x=>?_)
    ·subst x;intro h;obtain rfl:=cB h;exact aL (hs:=[.run 3,.val (.int .i64 a),.dec false,.aJ,.run 1,.val (.int .i64 a),.dec true,.aJ,.run 1,.val (.str f),.aJ,.dec false,.run 1,.eE [16,17] .normal [(17,(.bool true))] (St.push e (.cells 26 true [(.int .i64 b),(.str c),(.int .i64 d)])),.aJ,.run 1]) (by kernel_rfl) (q9013) (by kernel_rfl) (by kernel_rfl)
    ·obtain rfl:=bF x;refine bD (fun y=>?_) (fun y=>?_)
     ·refine aA fun V L=>?_;have q9014:=aK (oA n (St.push e (.cells 26 true [(.int .i64 b),(.str c),(.int .i64 d)])) L)<|aK (mK y) q9013
      refine bD (fun z=>?_) (fun z=>?_)
      ·subst z;intro h;obtain rfl:=cB h;exact aL (hs:=[.run 3,.val (.int .i64 a),.dec false,.aJ,.run 1,.val (.int .i64 a),.dec true,.aJ,.run 1,.val (.str f),.aJ,.dec false,.run 1,.eE [16,17] .normal [(17,(.bool false))] (St.push e (.cells 26 true [(.int .i64 b),(.str c),(.int .i64 d)])),.aJ,.dec true,.run 1,.eE [16,24] .normal [(24,(.bool true))] (St.push e (.cells 26 true [(.int .i64 b),(.str c),(.int .i64 d)])),.aJ,.run 1]) (by kernel_rfl) (q9014) (by kernel_rfl) (by kernel_rfl)
      ·obtain rfl:=bF z;refine bD (fun A=>?_) (fun A=>?_)
       ·intro h;obtain rfl:=cB h;exact aL (hs:=[.run 3,.val (.int .i64 a),.dec false,.aJ,.run 1,.val (.int .i64 a),.dec true,.aJ,.run 1,.val (.str f),.aJ,.dec false,.run 1,.eE [16,17] .normal [(17,(.bool false))] (St.push e (.cells 26 true [(.int .i64 b),(.str c),(.int .i64 d)])),.aJ,.dec true,.run 1,.eE [16,24] .normal [(24,(.bool false))] (St.push e (.cells 26 true [(.int .i64 b),(.str c),(.int .i64 d)])),.aJ,.dec true,.run 1,.aJ,.run 1]) (by kernel_rfl) (aK (mK A) q9014) (by kernel_rfl) (by kernel_rfl)
       ·intro h;obtain rfl:=cB h;exact aL (hs:=[.run 3,.val (.int .i64 a),.dec false,.aJ,.run 1,.val (.int .i64 a),.dec true,.aJ,.run 1,.val (.str f),.aJ,.dec false,.run 1,.eE [16,17] .normal [(17,(.bool false))] (St.push e (.cells 26 true [(.int .i64 b),(.str c),(.int .i64 d)])),.aJ,.dec true,.run 1,.eE [16,24] .normal [(24,(.bool false))] (St.push e (.cells 26 true [(.int .i64 b),(.str c),(.int .i64 d)])),.aJ,.dec false,.run 1,.aJ,.run 1]) (by kernel_rfl) (aK (kY A) q9014) (by kernel_rfl) (by kernel_rfl)
     ·refine aA fun W M=>?_;have q9015:=aK (n4 n (St.push e (.cells 26 true [(.int .i64 b),(.str c),(.int .i64 d)])) M)<|aK (kY y) q9013
      refine bD (fun B=>?_) (fun B=>?_)
      ·subst B;intro h;obtain rfl:=cB h;exact aL (hs:=[.run 3,.val (.int .i64 a),.dec false,.aJ,.run 1,.val (.int .i64 a),.dec true,.aJ,.run 1,.val (.str f),.aJ,.dec false,.run 1,.eE [16,17] .normal [(17,(.bool false))] (St.push e (.cells 26 true [(.int .i64 b),(.str c),(.int .i64 d)])),.aJ,.dec false,.run 1,.eE [16,24] .normal [(24,(.bool true))] (St.push e (.cells 26 true [(.int .i64 b),(.str c),(.int .i64 d)])),.aJ,.run 1]) (by kernel_rfl) (q9015) (by kernel_rfl) (by kernel_rfl)
      ·obtain rfl:=bF B;refine bD (fun C=>?_) (fun C=>?_)
       ·intro h;obtain rfl:=cB h;exact aL (hs:=[.run 3,.val (.int .i64 a),.dec false,.aJ,.run 1,.val (.int .i64 a),.dec true,.aJ,.run 1,.val (.str f),.aJ,.dec false,.run 1,.eE [16,17] .normal [(17,(.bool false))] (St.push e (.cells 26 true [(.int .i64 b),(.str c),(.int .i64 d)])),.aJ,.dec false,.run 1,.eE [16,24] .normal [(24,(.bool false))] (St.push e (.cells 26 true [(.int .i64 b),(.str c),(.int .i64 d)])),.aJ,.dec true,.run 1,.aJ,.run 1]) (by kernel_rfl) (aK (mK C) q9015) (by kernel_rfl) (by kernel_rfl)
       ·intro h;obtain rfl:=cB h;exact aL (hs:=[.run 3,.val (.int .i64 a),.dec false,.aJ,.run 1,.val (.int .i64 a),.dec true,.aJ,.run 1,.val (.str f),.aJ,.dec false,.run 1,.eE [16,17] .normal [(17,(.bool false))] (St.push e (.cells 26 true [(.int .i64 b),(.str c),(.int .i64 d)])),.aJ,.dec false,.run 1,.eE [16,24] .normal [(24,(.bool false))] (St.push e (.cells 26 true [(.int .i64 b),(.str c),(.int .i64 d)])),.aJ,.dec false,.run 1,.aJ,.run 1]) (by kernel_rfl) (aK (kY C) q9015) (by kernel_rfl) (by kernel_rfl)
  ·intro h;obtain rfl:=cB h;exact aL (hs:=[.run 3,.val (.int .i64 a),.dec false,.aJ,.run 1,.val (.int .i64 a),.dec false,.aJ,.run 1]) (by kernel_rfl) (aK (eW o) q9008) (by kernel_rfl) (by kernel_rfl)
noncomputable def rZ (R:Nat)(c:Bool)(a:St):Option (Int×Bool×Int×List UInt8×AV×AV×St):=
 (storeAt C0.P (St.push a (.cells 29 true [(.int .i64 0),(.bool false),(.int .i64 0),(.str []),AV.aB,AV.aB])) 29 (.ref (St.next a) 0) (.agg [(.int .i64 1),(.bool c),(.int .i64 0),(.str []),AV.aB,AV.aB])).bind fun b=>
 (loadAt C0.P b 29 (.ref (St.next a) 0)).bind fun d=>
 (fE d).bind fun(e,f,g,h,i,j)=>
 some (e,f,g,h,i,j,b)
theorem Ax {R:Nat}(n:Nat){a:Bool}{b:St}{r:Int×Bool×Int×List UInt8×AV×AV×St}(h:rZ R a b=some r):
 b7 (aR C0 cK R (n+1)) false 65 [(.bool a)] b (.agg [.int .i64 r.1,.bool r.2.1,.int .i64 r.2.2.1,.str r.2.2.2.1,r.2.2.2.2.1,r.2.2.2.2.2.1]) r.2.2.2.2.2.2:=by
 revert h;unfold rZ;refine aA fun c d=>?_;refine aA fun p e=>?_;refine aA fun o f=>?_;obtain⟨g,i,j,k,l,m⟩:=o;obtain rfl:=iO f;intro h;obtain rfl:=cB h;exact aL (hs:=[.run 3,.bM AV.undef c,.val (nS g i j k l m)]) (by kernel_rfl) (aK e<|aK (aP d) gD) (by kernel_rfl) (by kernel_rfl)
noncomputable def xY (R:Nat)(c:Int)(a:St):Option (Int×Bool×Int×List UInt8×AV×AV×St):=
 (storeAt C0.P (St.push a (.cells 29 true [(.int .i64 0),(.bool false),(.int .i64 0),(.str []),AV.aB,AV.aB])) 29 (.ref (St.next a) 0) (.agg [(.int .i64 2),(.bool false),(.int .i64 c),(.str []),AV.aB,AV.aB])).bind fun b=>
 (loadAt C0.P b 29 (.ref (St.next a) 0)).bind fun d=>
 (fE d).bind fun(e,f,g,h,i,j)=>
 some (e,f,g,h,i,j,b)
theorem Gb {R:Nat}(n:Nat){a:Int}{b:St}{r:Int×Bool×Int×List UInt8×AV×AV×St}(h:xY R a b=some r):
 b7 (aR C0 cK R (n+1)) false 67 [(.int .i64 a)] b (.agg [.int .i64 r.1,.bool r.2.1,.int .i64 r.2.2.1,.str r.2.2.2.1,r.2.2.2.2.1,r.2.2.2.2.2.1]) r.2.2.2.2.2.2:=by
 revert h;unfold xY;refine aA fun c d=>?_;refine aA fun p e=>?_;refine aA fun o f=>?_;obtain⟨g,i,j,k,l,m⟩:=o;obtain rfl:=iO f;intro h;obtain rfl:=cB h;exact aL (hs:=[.run 3,.bM AV.undef c,.val (nS g i j k l m)]) (by kernel_rfl) (aK e<|aK (aP d) gD) (by kernel_rfl) (by kernel_rfl)
noncomputable def y6 (R:Nat)(c:List UInt8)(a:St):Option (Int×Bool×Int×List UInt8×AV×AV×St):=
 (storeAt C0.P (St.push a (.cells 29 true [(.int .i64 0),(.bool false),(.int .i64 0),(.str []),AV.aB,AV.aB])) 29 (.ref (St.next a) 0) (.agg [(.int .i64 3),(.bool false),(.int .i64 0),(.str c),AV.aB,AV.aB])).bind fun b=>
 (loadAt C0.P b 29 (.ref (St.next a) 0)).bind fun d=>
 (fE d).bind fun(e,f,g,h,i,j)=>
 some (e,f,g,h,i,j,b)
theorem GM {R:Nat}(n:Nat){a:List UInt8}{b:St}{r:Int×Bool×Int×List UInt8×AV×AV×St}(h:y6 R a b=some r):
 b7 (aR C0 cK R (n+1)) false 68 [(.str a)] b (.agg [.int .i64 r.1,.bool r.2.1,.int .i64 r.2.2.1,.str r.2.2.2.1,r.2.2.2.2.1,r.2.2.2.2.2.1]) r.2.2.2.2.2.2:=by
 revert h;unfold y6;refine aA fun c d=>?_;refine aA fun p e=>?_;refine aA fun o f=>?_;obtain⟨g,i,j,k,l,m⟩:=o;obtain rfl:=iO f;intro h;obtain rfl:=cB h;exact aL (hs:=[.run 3,.bM AV.undef c,.val (nS g i j k l m)]) (by kernel_rfl) (aK e<|aK (aP d) gD) (by kernel_rfl) (by kernel_rfl)
noncomputable def sP (R:Nat)(c:List UInt8)(a:St):Option (Int×Bool×Int×List UInt8×AV×AV×St):=
 (storeAt C0.P (St.push a (.cells 29 true [(.int .i64 0),(.bool false),(.int .i64 0),(.str []),AV.aB,AV.aB])) 29 (.ref (St.next a) 0) (.agg [(.int .i64 4),(.bool false),(.int .i64 0),(.str c),AV.aB,AV.aB])).bind fun b=>
 (loadAt C0.P b 29 (.ref (St.next a) 0)).bind fun d=>
 (fE d).bind fun(e,f,g,h,i,j)=>
 some (e,f,g,h,i,j,b)
theorem ET {R:Nat}(n:Nat){a:List UInt8}{b:St}{r:Int×Bool×Int×List UInt8×AV×AV×St}(h:sP R a b=some r):
 b7 (aR C0 cK R (n+1)) false 69 [(.str a)] b (.agg [.int .i64 r.1,.bool r.2.1,.int .i64 r.2.2.1,.str r.2.2.2.1,r.2.2.2.2.1,r.2.2.2.2.2.1]) r.2.2.2.2.2.2:=by
 revert h;unfold sP;refine aA fun c d=>?_;refine aA fun p e=>?_;refine aA fun o f=>?_;obtain⟨g,i,j,k,l,m⟩:=o;obtain rfl:=iO f;intro h;obtain rfl:=cB h;exact aL (hs:=[.run 3,.bM AV.undef c,.val (nS g i j k l m)]) (by kernel_rfl) (aK e<|aK (aP d) gD) (by kernel_rfl) (by kernel_rfl)
noncomputable def gY (R:Nat)(b:AV)(a:St):Option (Int×List UInt8×Int×Bool×Int×List UInt8×AV×AV×AV×AV×St):=
 (aZ b).bind fun _=>
 (shift b 0).bind fun z=>
 (loadAt C0.P (St.push a (.cells 32 true [(.int .i64 0),(.str []),(.int .i64 0),(.bool false),(.int .i64 0),(.str []),AV.aB,AV.aB,AV.aB,AV.aB])) 40 z).bind fun A=>
 (aZ b).bind fun _=>
 (shift b 1).bind fun e=>
 (loadAt C0.P (St.push a (.cells 32 true [(.int .i64 0),(.str []),(.int .i64 0),(.bool false),(.int .i64 0),(.str []),AV.aB,AV.aB,AV.aB,AV.aB])) 3 e).bind fun B=>
 (eP .i64 B).bind fun C=>
 (cV C0.P 40 A (.int .i64 C)).bind fun D=>
 (loadAt C0.P (St.push a (.cells 32 true [(.int .i64 0),(.str []),(.int .i64 0),(.bool false),(.int .i64 0),(.str []),AV.aB,AV.aB,AV.aB,AV.aB])) 26 D).bind fun E=>
 (cD E).bind fun(F,G,H)=>
 (storeAt C0.P (St.push (St.push a (.cells 32 true [(.int .i64 0),(.str []),(.int .i64 0),(.bool false),(.int .i64 0),(.str []),AV.aB,AV.aB,AV.aB,AV.aB])) (.cells 26 true [(.int .i64 0),(.str []),(.int .i64 0)])) 26 (.ref (St.next (St.push a (.cells 32 true [(.int .i64 0),(.str []),(.int .i64 0),(.bool false),(.int .i64 0),(.str []),AV.aB,AV.aB,AV.aB,AV.aB]))) 0) (.agg [(.int .i64 F),(.str G),(.int .i64 H)])).bind fun c=>
 (storeAt C0.P (St.push c (.cells 32 true [(.int .i64 0),(.str []),(.int .i64 0),(.bool false),(.int .i64 0),(.str []),AV.aB,AV.aB,AV.aB,AV.aB])) 32 (.ref (St.next c) 0) (.agg [(.int .i64 1),(.str []),(.int .i64 0),(.bool false),(.int .i64 0),(.str []),AV.aB,AV.aB,AV.aB,AV.aB])).bind fun I=>
 (bK R b [78,85,76,76] I).bind fun(J,f)=>
 if J=true then
  (loadAt C0.P f 32 (.ref (St.next c) 0)).bind fun K=>
  (aI K).bind fun(L,M,N,O,Q,S,T,U,V,W)=>
  (bV R b L M N O Q S T U V W f).bind fun(X,Y,Z,a0,a1,a2,a3,a4,a5,a6,a7)=>
  (storeAt C0.P a7 32 (.ref (St.next a) 0) (.agg [(.int .i64 X),(.str Y),(.int .i64 Z),(.bool a0),(.int .i64 a1),(.str a2),a3,a4,a5,a6])).bind fun h=>
  (loadAt C0.P h 32 (.ref (St.next a) 0)).bind fun a8=>
  (aI a8).bind fun(a9,b0,b1,b2,b3,b4,b5,b6,b7,b8)=>
  some (a9,b0,b1,b2,b3,b4,b5,b6,b7,b8,h)
 else
  (bK R b [84,82,85,69] f).bind fun(b9,i)=>
  if b9=true then
   (rZ R true i).bind fun(c0,c1,c2,c3,c4,c5,c6)=>
   (storeAt C0.P c6 29 (.ref (St.next c) 2) (.agg [(.int .i64 c0),(.bool c1),(.int .i64 c2),(.str c3),c4,c5])).bind fun j=>
   (loadAt C0.P j 32 (.ref (St.next c) 0)).bind fun c7=>
   (aI c7).bind fun(c8,c9,d0,d1,d2,d3,d4,d5,d6,d7)=>
   (bV R b c8 c9 d0 d1 d2 d3 d4 d5 d6 d7 j).bind fun(d8,d9,e0,e1,e2,e3,e4,e5,e6,e7,e8)=>
   (storeAt C0.P e8 32 (.ref (St.next a) 0) (.agg [(.int .i64 d8),(.str d9),(.int .i64 e0),(.bool e1),(.int .i64 e2),(.str e3),e4,e5,e6,e7])).bind fun k=>
   (loadAt C0.P k 32 (.ref (St.next a) 0)).bind fun e9=>
   (aI e9).bind fun(f0,f1,f2,f3,f4,f5,f6,f7,f8,f9)=>
   some (f0,f1,f2,f3,f4,f5,f6,f7,f8,f9,k)
  else
   (bK R b [70,65,76,83,69] i).bind fun(g0,d)=>
   if g0=true then
    (rZ R false d).bind fun(g1,g2,g3,g4,g5,g6,g7)=>
    (storeAt C0.P g7 29 (.ref (St.next c) 2) (.agg [(.int .i64 g1),(.bool g2),(.int .i64 g3),(.str g4),g5,g6])).bind fun l=>
    (loadAt C0.P l 32 (.ref (St.next c) 0)).bind fun g8=>
    (aI g8).bind fun(g9,h0,h1,h2,h3,h4,h5,h6,h7,h8)=>
    (bV R b g9 h0 h1 h2 h3 h4 h5 h6 h7 h8 l).bind fun(h9,i0,i1,i2,i3,i4,i5,i6,i7,i9,j0)=>
    (storeAt C0.P j0 32 (.ref (St.next a) 0) (.agg [(.int .i64 h9),(.str i0),(.int .i64 i1),(.bool i2),(.int .i64 i3),(.str i4),i5,i6,i7,i9])).bind fun m=>
    (loadAt C0.P m 32 (.ref (St.next a) 0)).bind fun j1=>
    (aI j1).bind fun(j2,j3,j4,j5,j6,j7,j8,j9,k0,k1)=>
    some (j2,j3,j4,j5,j6,j7,j8,j9,k0,k1,m)
   else
    (aZ b).bind fun _=>
    (shift b 5).bind fun k2=>
    (loadAt C0.P d 35 k2).bind fun k3=>
    (eP .i64 k3).bind fun k4=>
    if (k4 = 0) then
     (loadAt C0.P d 3 (.ref (St.next (St.push a (.cells 32 true [(.int .i64 0),(.str []),(.int .i64 0),(.bool false),(.int .i64 0),(.str []),AV.aB,AV.aB,AV.aB,AV.aB]))) 0)).bind fun k5=>
     (eP .i64 k5).bind fun g=>
     if(g=3) then
      (loadAt C0.P d 9 (.ref (St.next (St.push a (.cells 32 true [(.int .i64 0),(.str []),(.int .i64 0),(.bool false),(.int .i64 0),(.str []),AV.aB,AV.aB,AV.aB,AV.aB]))) 1)).bind fun k6=>
      (iZ k6).bind fun k7=>
      (P9 R k7 10 64).bind fun(k8,C6)=>
      (xY R k8 d).bind fun(k9,l0,l1,l2,l3,l4,l5)=>
      (storeAt C0.P l5 29 (.ref (St.next c) 2) (.agg [(.int .i64 k9),(.bool l0),(.int .i64 l1),(.str l2),l3,l4])).bind fun n=>
      (aZ b).bind fun _=>
      (loadAt C0.P n 3 e).bind fun l6=>
      (eP .i64 l6).bind fun l7=>
      (aZ b).bind fun _=>
      (storeAt C0.P n 3 e (.int .i64 (IntKind.wrap .i64 (l7+1)))).bind fun o=>
      (loadAt C0.P o 32 (.ref (St.next c) 0)).bind fun l8=>
      (aI l8).bind fun(l9,m0,m1,m2,m3,m4,m5,m6,m7,m8)=>
      (bV R b l9 m0 m1 m2 m3 m4 m5 m6 m7 m8 o).bind fun(m9,n0,n1,n2,n3,n4,n5,n6,n7,n8,n9)=>
      (storeAt C0.P n9 32 (.ref (St.next a) 0) (.agg [(.int .i64 m9),(.str n0),(.int .i64 n1),(.bool n2),(.int .i64 n3),(.str n4),n5,n6,n7,n8])).bind fun p=>
      (loadAt C0.P p 32 (.ref (St.next a) 0)).bind fun o0=>
      (aI o0).bind fun(o1,o2,o3,o4,o5,o6,o7,o8,o9,p0)=>
      some (o1,o2,o3,o4,o5,o6,o7,o8,o9,p0,p)
     else
      if(g=4) then
       (loadAt C0.P d 9 (.ref (St.next (St.push a (.cells 32 true [(.int .i64 0),(.str []),(.int .i64 0),(.bool false),(.int .i64 0),(.str []),AV.aB,AV.aB,AV.aB,AV.aB]))) 1)).bind fun p1=>
       (iZ p1).bind fun p2=>
       (y6 R p2 d).bind fun(p3,p4,p5,p6,p7,p8,p9)=>
       (storeAt C0.P p9 29 (.ref (St.next c) 2) (.agg [(.int .i64 p3),(.bool p4),(.int .i64 p5),(.str p6),p7,p8])).bind fun q=>
       (aZ b).bind fun _=>
       (loadAt C0.P q 3 e).bind fun q0=>
       (eP .i64 q0).bind fun q1=>
       (aZ b).bind fun _=>
       (storeAt C0.P q 3 e (.int .i64 (IntKind.wrap .i64 (q1+1)))).bind fun r=>
       (loadAt C0.P r 32 (.ref (St.next c) 0)).bind fun q2=>
       (aI q2).bind fun(q3,q4,q5,q6,q7,q8,q9,r0,r1,r2)=>
       (bV R b q3 q4 q5 q6 q7 q8 q9 r0 r1 r2 r).bind fun(r3,r4,r5,r6,r7,r8,r9,s0,s1,s2,s3)=>
       (storeAt C0.P s3 32 (.ref (St.next a) 0) (.agg [(.int .i64 r3),(.str r4),(.int .i64 r5),(.bool r6),(.int .i64 r7),(.str r8),r9,s0,s1,s2])).bind fun s=>
       (loadAt C0.P s 32 (.ref (St.next a) 0)).bind fun s4=>
       (aI s4).bind fun(s5,s6,s7,s8,s9,t0,t1,t2,t3,t4)=>
       some (s5,s6,s7,s8,s9,t0,t1,t2,t3,t4,s)
      else
       if(g=5) then
        (loadAt C0.P d 9 (.ref (St.next (St.push a (.cells 32 true [(.int .i64 0),(.str []),(.int .i64 0),(.bool false),(.int .i64 0),(.str []),AV.aB,AV.aB,AV.aB,AV.aB]))) 1)).bind fun t5=>
        (iZ t5).bind fun t6=>
        (sP R t6 d).bind fun(t7,t8,t9,u0,u1,u2,u3)=>
        (storeAt C0.P u3 29 (.ref (St.next c) 2) (.agg [(.int .i64 t7),(.bool t8),(.int .i64 t9),(.str u0),u1,u2])).bind fun t=>
        (aZ b).bind fun _=>
        (loadAt C0.P t 3 e).bind fun u4=>
        (eP .i64 u4).bind fun u5=>
        (aZ b).bind fun _=>
        (storeAt C0.P t 3 e (.int .i64 (IntKind.wrap .i64 (u5+1)))).bind fun u=>
        (loadAt C0.P u 32 (.ref (St.next c) 0)).bind fun u6=>
        (aI u6).bind fun(u7,u9,v0,v1,v2,v3,v4,v5,v6,v7)=>
        (bV R b u7 u9 v0 v1 v2 v3 v4 v5 v6 v7 u).bind fun(v8,v9,w0,w1,w2,w3,w4,w5,w6,w7,w8)=>
        (storeAt C0.P w8 32 (.ref (St.next a) 0) (.agg [(.int .i64 v8),(.str v9),(.int .i64 w0),(.bool w1),(.int .i64 w2),(.str w3),w4,w5,w6,w7])).bind fun v=>
        (loadAt C0.P v 32 (.ref (St.next a) 0)).bind fun w9=>
        (aI w9).bind fun(x0,x1,x2,x3,x4,x5,x6,x7,x8,x9)=>
        some (x0,x1,x2,x3,x4,x5,x6,x7,x8,x9,v)
       else
        (bJ R b 120 d).bind fun w=>
        (loadAt C0.P w 32 (.ref (St.next c) 0)).bind fun y0=>
        (aI y0).bind fun(y1,y2,y3,y4,y5,y7,y8,y9,z0,z1)=>
        (storeAt C0.P w 32 (.ref (St.next a) 0) (.agg [(.int .i64 y1),(.str y2),(.int .i64 y3),(.bool y4),(.int .i64 y5),(.str y7),y8,y9,z0,z1])).bind fun x=>
        (loadAt C0.P x 32 (.ref (St.next a) 0)).bind fun z2=>
        (aI z2).bind fun(z3,z4,z5,z6,z7,z8,z9,A0,A1,A2)=>
        some (z3,z4,z5,z6,z7,z8,z9,A0,A1,A2,x)
    else
     (loadAt C0.P d 32 (.ref (St.next c) 0)).bind fun A3=>
     (aI A3).bind fun(A4,A5,A6,A7,A8,A9,B0,B1,B2,B3)=>
     (storeAt C0.P d 32 (.ref (St.next a) 0) (.agg [(.int .i64 A4),(.str A5),(.int .i64 A6),(.bool A7),(.int .i64 A8),(.str A9),B0,B1,B2,B3])).bind fun y=>
     (loadAt C0.P y 32 (.ref (St.next a) 0)).bind fun B4=>
     (aI B4).bind fun(B5,B6,B7,B8,B9,C1,C2,C3,C4,C5)=>
     some (B5,B6,B7,B8,B9,C1,C2,C3,C4,C5,y)
theorem oY {R : Nat} (n : Nat) {a : AV} {E : St} {r : Int × List UInt8 × Int × Bool × Int × List UInt8 × AV × AV × AV × AV × St} (h : gY R a E = some r):
 b7 (aR C0 cK R (n+3)) false 56 [a] E (.agg [.int .i64 r.1,.str r.2.1,.int .i64 r.2.2.1,.bool r.2.2.2.1,.int .i64 r.2.2.2.2.1,.str r.2.2.2.2.2.1,r.2.2.2.2.2.2.1,r.2.2.2.2.2.2.2.1,r.2.2.2.2.2.2.2.2.1,r.2.2.2.2.2.2.2.2.2.1]) r.2.2.2.2.2.2.2.2.2.2:=by
 revert h;unfold gY;refine aA fun _o F=>?_;refine aA fun d G=>?_;refine aA fun e H=>?_;refine aA fun _o I=>?_;refine aA fun b s=>?_;refine aA fun K9 J=>?_;refine aA fun f K=>?_;obtain rfl:=cA K;refine aA fun g L=>?_;refine aA fun L0 M=>?_;refine aA fun o N=>?_;obtain⟨i,j,k⟩:=o;obtain rfl:=bT N;refine aA fun l O=>?_;refine aA fun m P=>?_;refine aA fun o Q=>?_;obtain⟨L1,p⟩:=o;have q9016:=aK (bA n Q)<|aK (aP P)<|aK (aP O)<|aK M<|aK L<|aK J<|aK s<|aK (cC I)<|aK H<|aK G<|aK (cC F) gD
 refine bD (fun z=>?_) (fun z=>?_)
 ·subst z;refine aA fun L2 S=>?_;refine aA fun o T=>?_;obtain⟨U,V,W,X,Y,Z,a0,a1,a2,a3⟩:=o;obtain rfl:=aH T;refine aA fun o a4=>?_;obtain⟨a5,a6,a7,a8,a9,b0,b1,b2,b3,b4,b5⟩:=o;refine aA fun b6 b8=>?_;refine aA fun L3 b9=>?_;refine aA fun o c0=>?_;obtain⟨c1,c2,c3,c4,c5,c6,c7,c8,c9,d0⟩:=o;obtain rfl:=aH c0;intro h;obtain rfl:=cB h;exact aL (hs:=[.run 2,.val a,.val d,.val e,.run 1,.val a,.val b,.val (.int .i64 f),.val g,.val (eZ i j k),.run 1,.bM AV.undef l,.run 2,.bM AV.undef m,.aJ,.run 1,.call (.bool true) p,.run 1,.aJ,.run 1,.val (aN U V W X Y Z a0 a1 a2 a3),.call (aN a5 a6 a7 a8 a9 b0 b1 b2 b3 b4) b5,.bM AV.undef b6,.val (aN c1 c2 c3 c4 c5 c6 c7 c8 c9 d0)]) (by kernel_rfl) (aK b9<|aK (aP b8)<|aK (bX n a4)<|aK S q9016) (by kernel_rfl) (by kernel_rfl)
 ·obtain rfl:=bF z;refine aA fun o d1=>?_;obtain⟨L4,t⟩:=o;have q9017:=aK (bA n d1) q9016
  refine bD (fun A=>?_) (fun A=>?_)
  ·subst A;refine aA fun o d2=>?_;obtain⟨d3,d4,d5,d6,d7,d8,d9⟩:=o;refine aA fun e0 e1=>?_;refine aA fun L5 e2=>?_;refine aA fun o e3=>?_;obtain⟨e4,e5,e6,e7,e8,e9,f0,f1,f2,f3⟩:=o;obtain rfl:=aH e3;refine aA fun o f4=>?_;obtain⟨f5,f6,f7,f8,f9,g0,g1,g2,g3,g4,g5⟩:=o;refine aA fun g6 g7=>?_;refine aA fun L6 g8=>?_;refine aA fun o g9=>?_;obtain⟨h0,h1,h2,h3,h4,h5,h6,h7,h8,h9⟩:=o;obtain rfl:=aH g9;intro h;obtain rfl:=cB h;exact aL (hs:=[.run 2,.val a,.val d,.val e,.run 1,.val a,.val b,.val (.int .i64 f),.val g,.val (eZ i j k),.run 1,.bM AV.undef l,.run 2,.bM AV.undef m,.aJ,.run 1,.call (.bool false) p,.run 1,.aJ,.run 1,.call (.bool true) t,.run 1,.aJ,.call (nS d3 d4 d5 d6 d7 d8) d9,.run 1,.bM AV.undef e0,.run 1,.val (aN e4 e5 e6 e7 e8 e9 f0 f1 f2 f3),.call (aN f5 f6 f7 f8 f9 g0 g1 g2 g3 g4) g5,.bM AV.undef g6,.val (aN h0 h1 h2 h3 h4 h5 h6 h7 h8 h9)]) (by kernel_rfl) (aK g8<|aK (aP g7)<|aK (bX n f4)<|aK e2<|aK (aP e1)<|aK (Ax (n+1) d2) q9017) (by kernel_rfl) (by kernel_rfl)
  ·obtain rfl:=bF A;refine aA fun o i0=>?_;obtain⟨L7,q⟩:=o;have q9018:=aK (bA n i0) q9017
   refine bD (fun B=>?_) (fun B=>?_)
   ·subst B;refine aA fun o i1=>?_;obtain⟨i2,i3,i4,i5,i6,i7,i9⟩:=o;refine aA fun j0 j1=>?_;refine aA fun L8 j2=>?_;refine aA fun o j3=>?_;obtain⟨j4,j5,j6,j7,j8,j9,k0,k1,k2,k3⟩:=o;obtain rfl:=aH j3;refine aA fun o k4=>?_;obtain⟨k5,k6,k7,k8,k9,l0,l1,l2,l3,l4,l5⟩:=o;refine aA fun l6 l7=>?_;refine aA fun L9 l8=>?_;refine aA fun o l9=>?_;obtain⟨m0,m1,m2,m3,m4,m5,m6,m7,m8,m9⟩:=o;obtain rfl:=aH l9;intro h;obtain rfl:=cB h;exact aL (hs:=[.run 2,.val a,.val d,.val e,.run 1,.val a,.val b,.val (.int .i64 f),.val g,.val (eZ i j k),.run 1,.bM AV.undef l,.run 2,.bM AV.undef m,.aJ,.run 1,.call (.bool false) p,.run 1,.aJ,.run 1,.call (.bool false) t,.run 1,.aJ,.run 1,.call (.bool true) q,.run 1,.aJ,.call (nS i2 i3 i4 i5 i6 i7) i9,.run 1,.bM AV.undef j0,.run 1,.val (aN j4 j5 j6 j7 j8 j9 k0 k1 k2 k3),.call (aN k5 k6 k7 k8 k9 l0 l1 l2 l3 l4) l5,.bM AV.undef l6,.val (aN m0 m1 m2 m3 m4 m5 m6 m7 m8 m9)]) (by kernel_rfl) (aK l8<|aK (aP l7)<|aK (bX n k4)<|aK j2<|aK (aP j1)<|aK (Ax (n+1) i1) q9018) (by kernel_rfl) (by kernel_rfl)
   ·obtain rfl:=bF B;refine aA fun _o n0=>?_;refine aA fun v n1=>?_;refine aA fun M0 n2=>?_;refine aA fun w n3=>?_;obtain rfl:=cA n3;have q9019:=aK n2<|aK n1<|aK (cC n0) q9018
    refine bD (fun C=>?_) (fun C=>?_)
    ·refine aA fun M1 u=>?_;refine aA fun c n4=>?_;obtain rfl:=cA n4;have q9020:=aK u<|aK (vR C) q9019
     refine bD (fun x=>?_) (fun x=>?_)
     ·refine aA fun M2 n5=>?_;refine aA fun n6 n7=>?_;obtain rfl:=dY n7;refine aA fun o n8=>?_;obtain⟨n9,o0⟩:=o;refine aA fun o o1=>?_;obtain⟨o2,o3,o4,o5,o6,o7,o8⟩:=o;refine aA fun o9 p0=>?_;refine aA fun _o p1=>?_;refine aA fun M3 p2=>?_;refine aA fun p3 p4=>?_;obtain rfl:=cA p4;refine aA fun _o p5=>?_;refine aA fun p6 p7=>?_;refine aA fun M4 p8=>?_;refine aA fun o p9=>?_;obtain⟨q0,q1,q2,q3,q4,q5,q6,q7,q8,q9⟩:=o;obtain rfl:=aH p9;refine aA fun o r0=>?_;obtain⟨r1,r2,r3,r4,r5,r6,r7,r8,r9,s0,s1⟩:=o;refine aA fun s2 s3=>?_;refine aA fun M5 s4=>?_;refine aA fun o s5=>?_;obtain⟨s6,s7,s8,s9,t0,t1,t2,t3,t4,t5⟩:=o
      obtain rfl:=aH s5;intro h;obtain rfl:=cB h;exact aL (hs:=[.run 2,.val a,.val d,.val e,.run 1,.val a,.val b,.val (.int .i64 f),.val g,.val (eZ i j k),.run 1,.bM AV.undef l,.run 2,.bM AV.undef m,.aJ,.run 1,.call (.bool false) p,.run 1,.aJ,.run 1,.call (.bool false) t,.run 1,.aJ,.run 1,.call (.bool false) q,.run 1,.aJ,.run 1,.val a,.val v,.val (.int .i64 w),.dec false,.run 1,.aJ,.run 1,.val (.int .i64 c),.dec true,.run 1,.aJ,.run 1,.val (.str n6),.call (.tuple [(.int .i64 n9),o0]) q,.run 6,.call (nS o2 o3 o4 o5 o6 o7) o8,.run 1,.bM AV.undef o9,.run 1,.val a,.val b,.val (.int .i64 p3),.run 1,.val a,.val b,.bM AV.undef p6,.run 1,.val (aN q0 q1 q2 q3 q4 q5 q6 q7 q8 q9),.call (aN r1 r2 r3 r4 r5 r6 r7 r8 r9 s0) s1,.bM AV.undef s2,.val (aN s6 s7 s8 s9 t0 t1 t2 t3 t4 t5)]) (by kernel_rfl) (aK s4<|aK (aP s3)<|aK (bX n r0)<|aK p8<|aK (aP p7)<|aK s<|aK (cC p5)<|aK p2<|aK s<|aK (cC p1)<|aK (aP p0)<|aK (Gb (n+1) o1)<|aK (Oh (n+1) q n8)<|aK n5<|aK (gA x) q9020) (by kernel_rfl) (by kernel_rfl)
     ·refine bD (fun y=>?_) (fun y=>?_)
      ·refine aA fun M6 t6=>?_;refine aA fun t7 t8=>?_;obtain rfl:=dY t8;refine aA fun o t9=>?_;obtain⟨u0,u1,u2,u3,u4,u5,u6⟩:=o;refine aA fun u7 u9=>?_;refine aA fun _o v0=>?_;refine aA fun M7 v1=>?_;refine aA fun v2 v3=>?_;obtain rfl:=cA v3;refine aA fun _o v4=>?_;refine aA fun v5 v6=>?_;refine aA fun M8 v7=>?_;refine aA fun o v8=>?_;obtain⟨v9,w0,w1,w2,w3,w4,w5,w6,w7,w8⟩:=o;obtain rfl:=aH v8;refine aA fun o w9=>?_;obtain⟨x0,x1,x2,x3,x4,x5,x6,x7,x8,x9,y0⟩:=o;refine aA fun y1 y2=>?_;refine aA fun M9 y3=>?_;refine aA fun o y4=>?_;obtain⟨y5,y6,y7,y8,y9,z0,z1,z2,z3,z4⟩:=o;obtain rfl:=aH y4;intro h
       obtain rfl:=cB h;exact aL (hs:=[.run 2,.val a,.val d,.val e,.run 1,.val a,.val b,.val (.int .i64 f),.val g,.val (eZ i j k),.run 1,.bM AV.undef l,.run 2,.bM AV.undef m,.aJ,.run 1,.call (.bool false) p,.run 1,.aJ,.run 1,.call (.bool false) t,.run 1,.aJ,.run 1,.call (.bool false) q,.run 1,.aJ,.run 1,.val a,.val v,.val (.int .i64 w),.dec false,.run 1,.aJ,.run 1,.val (.int .i64 c),.dec false,.run 1,.aJ,.run 1,.val (.int .i64 c),.dec true,.run 1,.aJ,.run 1,.val (.str t7),.call (nS u0 u1 u2 u3 u4 u5) u6,.run 1,.bM AV.undef u7,.run 1,.val a,.val b,.val (.int .i64 v2),.run 1,.val a,.val b,.bM AV.undef v5,.run 1,.val (aN v9 w0 w1 w2 w3 w4 w5 w6 w7 w8),.call (aN x0 x1 x2 x3 x4 x5 x6 x7 x8 x9) y0,.bM AV.undef y1,.val (aN y5 y6 y7 y8 y9 z0 z1 z2 z3 z4)]) (by kernel_rfl) (aK y3<|aK (aP y2)<|aK (bX n w9)<|aK v7<|aK (aP v6)<|aK s<|aK (cC v4)<|aK v1<|aK s<|aK (cC v0)<|aK (aP u9)<|aK (GM (n+1) t9)<|aK t6<|aK (gA y)<|aK u<|aK (eW x) q9020) (by kernel_rfl) (by kernel_rfl)
      ·refine bD (fun D=>?_) (fun D=>?_)
       ·refine aA fun N0 z5=>?_;refine aA fun z6 z7=>?_;obtain rfl:=dY z7;refine aA fun o z8=>?_;obtain⟨z9,A0,A1,A2,A3,A4,A5⟩:=o;refine aA fun A6 A7=>?_;refine aA fun _o A8=>?_;refine aA fun N1 A9=>?_;refine aA fun B0 B1=>?_;obtain rfl:=cA B1;refine aA fun _o B2=>?_;refine aA fun B3 B4=>?_;refine aA fun N2 B5=>?_;refine aA fun o B6=>?_;obtain⟨B8,B9,C1,C2,C3,C4,C5,C6,C7,C8⟩:=o;obtain rfl:=aH B6;refine aA fun o C9=>?_;obtain⟨D0,D1,D2,D3,D4,D5,D6,D7,D8,D9,E0⟩:=o;refine aA fun E1 E2=>?_;refine aA fun N3 E3=>?_;refine aA fun o E4=>?_;obtain⟨E5,E6,E7,E8,E9,F0,F1,F2,F3,F4⟩:=o;obtain rfl:=aH E4
        intro h;obtain rfl:=cB h;exact aL (hs:=[.run 2,.val a,.val d,.val e,.run 1,.val a,.val b,.val (.int .i64 f),.val g,.val (eZ i j k),.run 1,.bM AV.undef l,.run 2,.bM AV.undef m,.aJ,.run 1,.call (.bool false) p,.run 1,.aJ,.run 1,.call (.bool false) t,.run 1,.aJ,.run 1,.call (.bool false) q,.run 1,.aJ,.run 1,.val a,.val v,.val (.int .i64 w),.dec false,.run 1,.aJ,.run 1,.val (.int .i64 c),.dec false,.run 1,.aJ,.run 1,.val (.int .i64 c),.dec false,.run 1,.aJ,.run 1,.val (.int .i64 c),.dec true,.run 1,.aJ,.run 1,.val (.str z6),.call (nS z9 A0 A1 A2 A3 A4) A5,.run 1,.bM AV.undef A6,.run 1,.val a,.val b,.val (.int .i64 B0),.run 1,.val a,.val b,.bM AV.undef B3,.run 1,.val (aN B8 B9 C1 C2 C3 C4 C5 C6 C7 C8),.call (aN D0 D1 D2 D3 D4 D5 D6 D7 D8 D9) E0,.bM AV.undef E1,.val (aN E5 E6 E7 E8 E9 F0 F1 F2 F3 F4)]) (by kernel_rfl) (aK E3<|aK (aP E2)<|aK (bX n C9)<|aK B5<|aK (aP B4)<|aK s<|aK (cC B2)<|aK A9<|aK s<|aK (cC A8)<|aK (aP A7)<|aK (ET (n+1) z8)<|aK z5<|aK (gA D)<|aK u<|aK (eW y)<|aK u<|aK (eW x) q9020) (by kernel_rfl) (by kernel_rfl)
       ·refine aA fun F5 F6=>?_;refine aA fun N4 F7=>?_;refine aA fun o F8=>?_;obtain⟨F9,G0,G1,G2,G3,G4,G5,G6,G7,G8⟩:=o;obtain rfl:=aH F8;refine aA fun G9 H0=>?_;refine aA fun N5 H1=>?_;refine aA fun o H2=>?_;obtain⟨H3,H4,H5,H6,H7,H8,H9,I0,I1,I2⟩:=o;obtain rfl:=aH H2;intro h;obtain rfl:=cB h;exact aL (hs:=[.run 2,.val a,.val d,.val e,.run 1,.val a,.val b,.val (.int .i64 f),.val g,.val (eZ i j k),.run 1,.bM AV.undef l,.run 2,.bM AV.undef m,.aJ,.run 1,.call (.bool false) p,.run 1,.aJ,.run 1,.call (.bool false) t,.run 1,.aJ,.run 1,.call (.bool false) q,.run 1,.aJ,.run 1,.val a,.val v,.val (.int .i64 w),.dec false,.run 1,.aJ,.run 1,.val (.int .i64 c),.dec false,.run 1,.aJ,.run 1,.val (.int .i64 c),.dec false,.run 1,.aJ,.run 1,.val (.int .i64 c),.dec false,.run 1,.aJ,.run 1,.call (.tuple []) F5,.val (aN F9 G0 G1 G2 G3 G4 G5 G6 G7 G8),.bM AV.undef G9,.val (aN H3 H4 H5 H6 H7 H8 H9 I0 I1 I2)]) (by kernel_rfl) (aK H1<|aK (aP H0)<|aK F7<|aK (bO (n+1) F6)<|aK (eW D)<|aK u<|aK (eW y)<|aK u<|aK (eW x) q9020) (by kernel_rfl) (by kernel_rfl)
    ·refine aA fun N6 I3=>?_;refine aA fun o I4=>?_;obtain⟨I5,I6,I7,I8,I9,J0,J1,J2,J3,J4⟩:=o;obtain rfl:=aH I4;refine aA fun J5 J6=>?_;refine aA fun N7 J7=>?_;refine aA fun o J8=>?_;obtain⟨J9,K0,K1,K2,K3,K4,K5,K6,K7,K8⟩:=o;obtain rfl:=aH J8;intro h;obtain rfl:=cB h;exact aL (hs:=[.run 2,.val a,.val d,.val e,.run 1,.val a,.val b,.val (.int .i64 f),.val g,.val (eZ i j k),.run 1,.bM AV.undef l,.run 2,.bM AV.undef m,.aJ,.run 1,.call (.bool false) p,.run 1,.aJ,.run 1,.call (.bool false) t,.run 1,.aJ,.run 1,.call (.bool false) q,.run 1,.aJ,.run 1,.val a,.val v,.val (.int .i64 w),.dec true,.run 1,.aJ,.val (aN I5 I6 I7 I8 I9 J0 J1 J2 J3 J4),.bM AV.undef J5,.val (aN J9 K0 K1 K2 K3 K4 K5 K6 K7 K8)]) (by kernel_rfl) (aK J7<|aK (aP J6)<|aK I3<|aK (B7 C) q9019) (by kernel_rfl) (by kernel_rfl)
structure gO where
 n:Nat
 f26:AV→Int→St→Option (Int×List UInt8×Int×Bool×Int×List UInt8×AV×AV×AV×AV×St)
 f41:AV→St→Option (Int×List UInt8×Int×Bool×Int×List UInt8×AV×AV×AV×AV×St)
 f40:AV→St→Option (Int×List UInt8×Int×Bool×Int×List UInt8×AV×AV×AV×AV×St)
def gO.ok (R:gO)(n:Nat):Prop:=(∀ m,n≤m→ ∀(a0:AV) (a1:Int) (st:St) (r:Int×List UInt8×Int×Bool×Int×List UInt8×AV×AV×AV×AV×St),R.f26 a0 a1 st=some r→b7 (aR C0 cK R.n m) false 26 [a0,(.int .i64 a1)] st (.agg [.int .i64 r.1,.str r.2.1,.int .i64 r.2.2.1,.bool r.2.2.2.1,.int .i64 r.2.2.2.2.1,.str r.2.2.2.2.2.1,r.2.2.2.2.2.2.1,r.2.2.2.2.2.2.2.1,r.2.2.2.2.2.2.2.2.1,r.2.2.2.2.2.2.2.2.2.1]) r.2.2.2.2.2.2.2.2.2.2)∧(∀ m,n≤m→ ∀(a0:AV) (st:St) (r:Int×List UInt8×Int×Bool×Int×List UInt8×AV×AV×AV×AV×St),R.f41 a0 st=some r→b7 (aR C0 cK R.n m) false 41 [a0] st (.agg [.int .i64 r.1,.str r.2.1,.int .i64 r.2.2.1,.bool r.2.2.2.1,.int .i64 r.2.2.2.2.1,.str r.2.2.2.2.2.1,r.2.2.2.2.2.2.1,r.2.2.2.2.2.2.2.1,r.2.2.2.2.2.2.2.2.1,r.2.2.2.2.2.2.2.2.2.1]) r.2.2.2.2.2.2.2.2.2.2)∧(∀ m,n≤m→ ∀(a0:AV) (st:St) (r:Int×List UInt8×Int×Bool×Int×List UInt8×AV×AV×AV×AV×St),R.f40 a0 st=some r→b7 (aR C0 cK R.n m) false 40 [a0] st (.agg [.int .i64 r.1,.str r.2.1,.int .i64 r.2.2.1,.bool r.2.2.2.1,.int .i64 r.2.2.2.2.1,.str r.2.2.2.2.2.1,r.2.2.2.2.2.2.1,r.2.2.2.2.2.2.2.1,r.2.2.2.2.2.2.2.2.1,r.2.2.2.2.2.2.2.2.2.1]) r.2.2.2.2.2.2.2.2.2.2)
theorem gO.ok.PI {R:gO}{n:Nat}(h:R.ok n):(∀ m,n≤m→ ∀(a0:AV) (a1:Int) (st:St) (r:Int×List UInt8×Int×Bool×Int×List UInt8×AV×AV×AV×AV×St),R.f26 a0 a1 st=some r→b7 (aR C0 cK R.n m) false 26 [a0,(.int .i64 a1)] st (.agg [.int .i64 r.1,.str r.2.1,.int .i64 r.2.2.1,.bool r.2.2.2.1,.int .i64 r.2.2.2.2.1,.str r.2.2.2.2.2.1,r.2.2.2.2.2.2.1,r.2.2.2.2.2.2.2.1,r.2.2.2.2.2.2.2.2.1,r.2.2.2.2.2.2.2.2.2.1]) r.2.2.2.2.2.2.2.2.2.2):=h.1
theorem gO.ok.Pv {R:gO}{n:Nat}(h:R.ok n):(∀ m,n≤m→ ∀(a0:AV) (st:St) (r:Int×List UInt8×Int×Bool×Int×List UInt8×AV×AV×AV×AV×St),R.f41 a0 st=some r→b7 (aR C0 cK R.n m) false 41 [a0] st (.agg [.int .i64 r.1,.str r.2.1,.int .i64 r.2.2.1,.bool r.2.2.2.1,.int .i64 r.2.2.2.2.1,.str r.2.2.2.2.2.1,r.2.2.2.2.2.2.1,r.2.2.2.2.2.2.2.1,r.2.2.2.2.2.2.2.2.1,r.2.2.2.2.2.2.2.2.2.1]) r.2.2.2.2.2.2.2.2.2.2):=h.2.1
theorem gO.ok.On {R:gO}{n:Nat}(h:R.ok n):(∀ m,n≤m→ ∀(a0:AV) (st:St) (r:Int×List UInt8×Int×Bool×Int×List UInt8×AV×AV×AV×AV×St),R.f40 a0 st=some r→b7 (aR C0 cK R.n m) false 40 [a0] st (.agg [.int .i64 r.1,.str r.2.1,.int .i64 r.2.2.1,.bool r.2.2.2.1,.int .i64 r.2.2.2.2.1,.str r.2.2.2.2.2.1,r.2.2.2.2.2.2.1,r.2.2.2.2.2.2.2.1,r.2.2.2.2.2.2.2.2.1,r.2.2.2.2.2.2.2.2.2.1]) r.2.2.2.2.2.2.2.2.2.2):=h.2.2
theorem gO.ok.mono {R:gO}{n m:Nat}(h:R.ok n)(hn:n≤m):R.ok m:=⟨fun k hk=>h.PI k (Nat.le_trans hn hk),fun k hk=>h.Pv k (Nat.le_trans hn hk),fun k hk=>h.On k (Nat.le_trans hn hk)⟩
noncomputable def eG (R:gO)(a:AV)(d:Int)(g:Nat)(c:Nat):Nat→St→Option ((St) ⊕ (St))
 | 0,_=>none
 | r + 1, b =>
   (aZ a).bind fun _=>
   (shift a 5).bind fun m=>
   (loadAt C0.P b 35 m).bind fun o=>
   (eP .i64 o).bind fun p=>
   if (p = 0) then
    (aZ a).bind fun _=>
    (shift a 0).bind fun q=>
    (loadAt C0.P b 40 q).bind fun s=>
    (aZ a).bind fun _=>
    (shift a 1).bind fun h=>
    (loadAt C0.P b 3 h).bind fun t=>
    (eP .i64 t).bind fun u=>
    (cV C0.P 40 s (.int .i64 u)).bind fun v=>
    (loadAt C0.P b 26 v).bind fun w=>
    (cD w).bind fun(x,y,z)=>
    (storeAt C0.P (St.push b (.cells 26 true [(.int .i64 0),(.str []),(.int .i64 0)])) 26 (.ref (St.next b) 0) (.agg [(.int .i64 x),(.str y),(.int .i64 z)])).bind fun k=>
    (loadAt C0.P k 26 (.ref (St.next b) 0)).bind fun A=>
    (cD A).bind fun(B,C,D)=>
    (sY R.n B C D k).bind fun(E,e)=>
    if(E=d) then
     (aZ a).bind fun _=>
     (loadAt C0.P e 3 h).bind fun F=>
     (eP .i64 F).bind fun G=>
     (aZ a).bind fun _=>
     (storeAt C0.P e 3 h (.int .i64 (IntKind.wrap .i64 (G+1)))).bind fun H=>
     (R.f26 a (IntKind.wrap .i64 (d+1)) H).bind fun(I,J,K,L,M,N,O,Q,S,T,i)=>
     (storeAt C0.P (St.push i (.cells 32 true [(.int .i64 0),(.str []),(.int .i64 0),(.bool false),(.int .i64 0),(.str []),AV.aB,AV.aB,AV.aB,AV.aB])) 32 (.ref (St.next i) 0) (.agg [(.int .i64 I),(.str J),(.int .i64 K),(.bool L),(.int .i64 M),(.str N),O,Q,S,T])).bind fun f=>
     (loadAt C0.P f 9 (.ref (St.next b) 1)).bind fun U=>
     (iZ U).bind fun V=>
     (loadAt C0.P f 32 (.ref c 0)).bind fun W=>
     (aI W).bind fun(X,Y,Z,a0,a1,a2,a3,a4,a5,a6)=>
     (loadAt C0.P f 32 (.ref (St.next i) 0)).bind fun a7=>
     (aI a7).bind fun(a8,a9,b0,b1,b2,b3,b4,b5,b6,b7)=>
     (eK (aU C0.P (C0.bU 26) 30 2 [(0,(.agg [(.int .i64 X),(.str Y),(.int .i64 Z),(.bool a0),(.int .i64 a1),(.str a2),a3,a4,a5,a6])),(1,(.agg [(.int .i64 a8),(.str a9),(.int .i64 b0),(.bool b1),(.int .i64 b2),(.str b3),b4,b5,b6,b7]))]) f).bind fun(l,b8)=>
     (AQ l).bind fun _=>
     (bV R.n a 6 V 0 false 0 [] AV.aB AV.aB l AV.aB b8).bind fun(b9,c0,c1,c2,c3,c4,c5,c6,c7,c8,c9)=>
     (storeAt C0.P c9 32 (.ref c 0) (.agg [(.int .i64 b9),(.str c0),(.int .i64 c1),(.bool c2),(.int .i64 c3),(.str c4),c5,c6,c7,c8])).bind fun j=>
     if(d=3) then
      (loadAt C0.P j 32 (.ref c 0)).bind fun d0=>
      (aI d0).bind fun(d1,d2,d3,d4,d5,d6,d7,d8,d9,e0)=>
      (storeAt C0.P j 32 (.ref g 0) (.agg [(.int .i64 d1),(.str d2),(.int .i64 d3),(.bool d4),(.int .i64 d5),(.str d6),d7,d8,d9,e0])).bind fun e1=>
      some (.inl e1)
     else
      eG R a d g c r j
    else
     (loadAt C0.P e 32 (.ref c 0)).bind fun e2=>
     (aI e2).bind fun(e3,e4,e5,e6,e7,e8,e9,f0,f1,f2)=>
     (storeAt C0.P e 32 (.ref g 0) (.agg [(.int .i64 e3),(.str e4),(.int .i64 e5),(.bool e6),(.int .i64 e7),(.str e8),e9,f0,f1,f2])).bind fun f3=>
     some (.inl f3)
   else
    some (.inr b)
noncomputable def jG (o:(St) ⊕ (St)):cZ×List (Nat×AV)×St:=match o with
 | .inl a0=>(.ret,[],a0)
 | .inr a0=>((.exit 0),[],a0)
theorem mH (R : gO) (n : Nat) (hR : R.ok n) (a : AV) (f : Int) (V : Nat) (W : Nat) : ∀ (r : Nat) (g : St) (o : (St) ⊕ (St)), eG R a f V W r g = some o →
 cM 63 (lO (fun fr k=>bN C0 (aR C0 cK R.n (n+2)) 26 R.n none (aQ C0.P 26 [1,1,1,1,0,0,0]) fr k) r) (bG (aQ C0.P 26 [1,1,1,1,0,0,0])) [(0,a),(1,(.int .i64 f)),(4,(.ref V 0)),(5,(.ref W 0))] g (jG o).1 (jG o).2.1 (jG o).2.2:=by
 intro r
 induction r with
 | zero=>intro g o h; exact nomatch h
 | succ r ih =>
   intro g o
   unfold eG;refine aA fun _o i=>?_;refine aA fun j l=>?_;refine aA fun j2 m=>?_;refine aA fun p f5=>?_;obtain rfl:=cA f5;refine bD (fun e=>?_) (fun e=>?_)
   ·refine aA fun _o u=>?_;refine aA fun v w=>?_;refine aA fun x y=>?_;refine aA fun _o z=>?_;refine aA fun c d=>?_;refine aA fun j3 A=>?_;refine aA fun B f6=>?_;obtain rfl:=cA f6;refine aA fun C D=>?_;refine aA fun j4 E=>?_;refine aA fun o f7=>?_;obtain⟨F,G,H⟩:=o;obtain rfl:=bT f7;refine aA fun I J=>?_;refine aA fun j5 K=>?_;refine aA fun o f8=>?_;obtain⟨L,M,N⟩:=o;obtain rfl:=bT f8;refine aA fun o O=>?_;obtain⟨Q,S⟩:=o;refine bD (fun q=>?_) (fun q=>?_)
    ·refine aA fun _o X=>?_;refine aA fun j6 Y=>?_;refine aA fun Z f9=>?_;obtain rfl:=cA f9;refine aA fun _o a0=>?_;refine aA fun s a1=>?_;refine aA fun o a2=>?_;obtain⟨a3,a4,a5,a6,a7,a8,a9,b0,b1,b2,b3⟩:=o;refine aA fun b4 b5=>?_;refine aA fun j7 b6=>?_;refine aA fun b g0=>?_;obtain rfl:=dY g0;refine aA fun j8 b7=>?_;refine aA fun o g1=>?_;obtain⟨b8,b9,c0,c1,c2,c3,c4,c5,c6,c7⟩:=o;obtain rfl:=aH g1;refine aA fun j9 c8=>?_;refine aA fun o g2=>?_;obtain⟨c9,d0,d1,d2,d3,d4,d5,d6,d7,d8⟩:=o;obtain rfl:=aH g2;refine aA fun o d9=>?_;obtain⟨t,e0⟩:=o;refine aA fun _o e1=>?_;refine aA fun o e2=>?_;obtain⟨e3,e4,e5,e6,e7,e8,e9,f0,f1,f2,f3⟩:=o
     refine aA fun T f4=>?_;refine bD (fun U=>?_) (fun U=>?_)
     ·refine aA fun k0 g3=>?_;refine aA fun o g4=>?_;obtain⟨g5,g6,g7,g8,g9,h0,h1,h2,h3,h4⟩:=o;obtain rfl:=aH g4;refine aA fun h5 h6=>?_;intro h;obtain rfl:=cB h;exact cF (aO (hs:=[.run 1,.val a,.val j,.val (.int .i64 p),.dec true,.aJ,.aJ,.run 1,.val a,.val v,.val x,.run 1,.val a,.val c,.val (.int .i64 B),.val C,.val (.agg [(.int .i64 F),(.str G),(.int .i64 H)]),.run 1,.bM AV.undef I,.val (.agg [(.int .i64 L),(.str M),(.int .i64 N)]),.call (.int .i64 Q) S,.run 1,.dec false,.aJ,.run 1,.val a,.val c,.val (.int .i64 Z),.run 1,.val a,.val c,.bM AV.undef s,.run 3,.call (.agg [(.int .i64 a3),(.str a4),(.int .i64 a5),(.bool a6),(.int .i64 a7),(.str a8),a9,b0,b1,b2]) b3,.run 1,.bM AV.undef b4,.run 2,.val (.str b),.val (.agg [(.int .i64 b8),(.str b9),(.int .i64 c0),(.bool c1),(.int .i64 c2),(.str c3),c4,c5,c6,c7]),.val (.agg [(.int .i64 c9),(.str d0),(.int .i64 d1),(.bool d2),(.int .i64 d3),(.str d4),d5,d6,d7,d8]),.bM t e0,.JY [[(.int .i64 6)],[(.str b)],[t]],.call (.agg [(.int .i64 e3),(.str e4),(.int .i64 e5),(.bool e6),(.int .i64 e7),(.str e8),e9,f0,f1,f2]) f3,.bM AV.undef T,.run 1,.dec true,.aJ,.val (.agg [(.int .i64 g5),(.str g6),(.int .i64 g7),(.bool g8),(.int .i64 g9),(.str h0),h1,h2,h3,h4]),.bM AV.undef h5]) (want:=[]) (by kernel_rfl) (.cons (aP h6)<|.cons g3<|.cons (gA U)<|.cons (aP f4)<|.cons (bX n e2)<|.cons (nH (rfl:AV.cells (.int .i64 6)=[(.int .i64 6)]) (nH (rfl:AV.cells (.str b)=[(.str b)]) (nH (rE e1) (zA))))<|.cons d9<|.cons c8<|.cons b7<|.cons b6<|.cons (aP b5)<|.cons (hR.PI (n+2) (by omega) a (IntKind.wrap .i64 (f+1)) s _ a2)<|.cons (aP a1)<|.cons d<|.cons (cC a0)<|.cons Y<|.cons d<|.cons (cC X)<|.cons (vR q)<|.cons (vJ (n+1) O)<|.cons K<|.cons (aP J)<|.cons E<|.cons D<|.cons A<|.cons d<|.cons (cC z)<|.cons y<|.cons w<|.cons (cC u)<|.cons (gA e)<|.cons m<|.cons l<|.cons (cC i) .nil)) (by kernel_rfl)
     ·intro h;exact dP (aO (hs:=[.run 1,.val a,.val j,.val (.int .i64 p),.dec true,.aJ,.aJ,.run 1,.val a,.val v,.val x,.run 1,.val a,.val c,.val (.int .i64 B),.val C,.val (.agg [(.int .i64 F),(.str G),(.int .i64 H)]),.run 1,.bM AV.undef I,.val (.agg [(.int .i64 L),(.str M),(.int .i64 N)]),.call (.int .i64 Q) S,.run 1,.dec false,.aJ,.run 1,.val a,.val c,.val (.int .i64 Z),.run 1,.val a,.val c,.bM AV.undef s,.run 3,.call (.agg [(.int .i64 a3),(.str a4),(.int .i64 a5),(.bool a6),(.int .i64 a7),(.str a8),a9,b0,b1,b2]) b3,.run 1,.bM AV.undef b4,.run 2,.val (.str b),.val (.agg [(.int .i64 b8),(.str b9),(.int .i64 c0),(.bool c1),(.int .i64 c2),(.str c3),c4,c5,c6,c7]),.val (.agg [(.int .i64 c9),(.str d0),(.int .i64 d1),(.bool d2),(.int .i64 d3),(.str d4),d5,d6,d7,d8]),.bM t e0,.JY [[(.int .i64 6)],[(.str b)],[t]],.call (.agg [(.int .i64 e3),(.str e4),(.int .i64 e5),(.bool e6),(.int .i64 e7),(.str e8),e9,f0,f1,f2]) f3,.bM AV.undef T,.run 1,.dec false,.aJ]) (want:=[0,1,4,5]) (by kernel_rfl) (.cons (eW U)<|.cons (aP f4)<|.cons (bX n e2)<|.cons (nH (rfl:AV.cells (.int .i64 6)=[(.int .i64 6)]) (nH (rfl:AV.cells (.str b)=[(.str b)]) (nH (rE e1) (zA))))<|.cons d9<|.cons c8<|.cons b7<|.cons b6<|.cons (aP b5)<|.cons (hR.PI (n+2) (by omega) a (IntKind.wrap .i64 (f+1)) s _ a2)<|.cons (aP a1)<|.cons d<|.cons (cC a0)<|.cons Y<|.cons d<|.cons (cC X)<|.cons (vR q)<|.cons (vJ (n+1) O)<|.cons K<|.cons (aP J)<|.cons E<|.cons D<|.cons A<|.cons d<|.cons (cC z)<|.cons y<|.cons w<|.cons (cC u)<|.cons (gA e)<|.cons m<|.cons l<|.cons (cC i) .nil)) (ih T _ h)
    ·refine aA fun k1 h7=>?_;refine aA fun o h8=>?_;obtain⟨h9,i0,i1,i2,i3,i4,i5,i6,i7,i9⟩:=o;obtain rfl:=aH h8;refine aA fun j0 j1=>?_;intro h;obtain rfl:=cB h;exact cF (aO (hs:=[.run 1,.val a,.val j,.val (.int .i64 p),.dec true,.aJ,.aJ,.run 1,.val a,.val v,.val x,.run 1,.val a,.val c,.val (.int .i64 B),.val C,.val (.agg [(.int .i64 F),(.str G),(.int .i64 H)]),.run 1,.bM AV.undef I,.val (.agg [(.int .i64 L),(.str M),(.int .i64 N)]),.call (.int .i64 Q) S,.run 1,.dec true,.aJ,.val (.agg [(.int .i64 h9),(.str i0),(.int .i64 i1),(.bool i2),(.int .i64 i3),(.str i4),i5,i6,i7,i9]),.bM AV.undef j0]) (want:=[]) (by kernel_rfl) (.cons (aP j1)<|.cons h7<|.cons (B7 q)<|.cons (vJ (n+1) O)<|.cons K<|.cons (aP J)<|.cons E<|.cons D<|.cons A<|.cons d<|.cons (cC z)<|.cons y<|.cons w<|.cons (cC u)<|.cons (gA e)<|.cons m<|.cons l<|.cons (cC i) .nil)) (by kernel_rfl)
   ·intro h;obtain rfl:=cB h;exact cF (aO (hs:=[.run 1,.val a,.val j,.val (.int .i64 p),.dec false,.aJ]) (want:=[]) (by kernel_rfl) (.cons (eW e)<|.cons m<|.cons l<|.cons (cC i) .nil)) (by kernel_rfl)
noncomputable def dR (R:gO)(b:AV)(c:Int)(a:St):Option (Int×List UInt8×Int×Bool×Int×List UInt8×AV×AV×AV×AV×St):=
 if(c=6) then
  (R.f40 b (St.push a (.cells 32 true [(.int .i64 0),(.str []),(.int .i64 0),(.bool false),(.int .i64 0),(.str []),AV.aB,AV.aB,AV.aB,AV.aB]))).bind fun(j,k,l,m,p,q,r,s,t,u,v)=>
  (storeAt C0.P v 32 (.ref (St.next a) 0) (.agg [(.int .i64 j),(.str k),(.int .i64 l),(.bool m),(.int .i64 p),(.str q),r,s,t,u])).bind fun e=>
  (loadAt C0.P e 32 (.ref (St.next a) 0)).bind fun w=>
  (aI w).bind fun(x,y,z,A,B,C,D,E,F,G)=>
  some (x,y,z,A,B,C,D,E,F,G,e)
 else
  if(c=2) then
   (R.f41 b (St.push a (.cells 32 true [(.int .i64 0),(.str []),(.int .i64 0),(.bool false),(.int .i64 0),(.str []),AV.aB,AV.aB,AV.aB,AV.aB]))).bind fun(H,I,J,K,L,M,N,O,Q,S,T)=>
   (storeAt C0.P T 32 (.ref (St.next a) 0) (.agg [(.int .i64 H),(.str I),(.int .i64 J),(.bool K),(.int .i64 L),(.str M),N,O,Q,S])).bind fun f=>
   (loadAt C0.P f 32 (.ref (St.next a) 0)).bind fun U=>
   (aI U).bind fun(V,W,X,Y,Z,a0,a1,a2,a3,a4)=>
   some (V,W,X,Y,Z,a0,a1,a2,a3,a4,f)
  else
   (R.f26 b (IntKind.wrap .i64 (c+1)) (St.push a (.cells 32 true [(.int .i64 0),(.str []),(.int .i64 0),(.bool false),(.int .i64 0),(.str []),AV.aB,AV.aB,AV.aB,AV.aB]))).bind fun(a5,a6,a7,a8,a9,b0,b1,b2,b3,b4,d)=>
   (storeAt C0.P (St.push d (.cells 32 true [(.int .i64 0),(.str []),(.int .i64 0),(.bool false),(.int .i64 0),(.str []),AV.aB,AV.aB,AV.aB,AV.aB])) 32 (.ref (St.next d) 0) (.agg [(.int .i64 a5),(.str a6),(.int .i64 a7),(.bool a8),(.int .i64 a9),(.str b0),b1,b2,b3,b4])).bind fun b5=>
   (eG R b c (St.next a) (St.next d) R.n b5).bind fun o=>match o with
   | .inl g=>
    (loadAt C0.P g 32 (.ref (St.next a) 0)).bind fun b6=>
    (aI b6).bind fun(b7,b8,b9,c0,c1,c2,c3,c4,c5,c6)=>
    some (b7,b8,b9,c0,c1,c2,c3,c4,c5,c6,g)
   | .inr h=>
    (loadAt C0.P h 32 (.ref (St.next d) 0)).bind fun c7=>
    (aI c7).bind fun(c8,c9,d0,d1,d2,d3,d4,d5,d6,d7)=>
    (storeAt C0.P h 32 (.ref (St.next a) 0) (.agg [(.int .i64 c8),(.str c9),(.int .i64 d0),(.bool d1),(.int .i64 d2),(.str d3),d4,d5,d6,d7])).bind fun i=>
    (loadAt C0.P i 32 (.ref (St.next a) 0)).bind fun d8=>
    (aI d8).bind fun(d9,e0,e1,e2,e3,e4,e5,e6,e7,e8)=>
    some (d9,e0,e1,e2,e3,e4,e5,e6,e7,e8,i)
theorem fU {R : gO} (n : Nat) (hR : R.ok n) {a : AV} {c : Int} {b : St} {r : Int × List UInt8 × Int × Bool × Int × List UInt8 × AV × AV × AV × AV × St} (h : dR R a c b = some r):
 b7 (aR C0 cK R.n (n+3)) false 26 [a,(.int .i64 c)] b (.agg [.int .i64 r.1,.str r.2.1,.int .i64 r.2.2.1,.bool r.2.2.2.1,.int .i64 r.2.2.2.2.1,.str r.2.2.2.2.2.1,r.2.2.2.2.2.2.1,r.2.2.2.2.2.2.2.1,r.2.2.2.2.2.2.2.2.1,r.2.2.2.2.2.2.2.2.2.1]) r.2.2.2.2.2.2.2.2.2.2:=by
 revert h;unfold dR;refine bD (fun d=>?_) (fun d=>?_)
 ·refine aA fun o y=>?_;obtain⟨z,A,B,C,D,E,F,G,H,I,J⟩:=o;refine aA fun K L=>?_;refine aA fun g6 M=>?_;refine aA fun o N=>?_;obtain⟨O,P,Q,S,T,U,V,W,X,Y⟩:=o;obtain rfl:=aH N;intro h;obtain rfl:=cB h;exact aL (hs:=[.run 2,.dec true,.aJ,.run 1,.call (aN z A B C D E F G H I) J,.bM AV.undef K,.val (aN O P Q S T U V W X Y)]) (by kernel_rfl) (aK M<|aK (aP L)<|aK (hR.On (n+2) (by omega) a (St.push b (.cells 32 true Mu)) _ y)<|aK (gA d) gD) (by kernel_rfl) (by kernel_rfl)
 ·refine bD (fun e=>?_) (fun e=>?_)
  ·refine aA fun o Z=>?_;obtain⟨a0,a1,a2,a3,a4,a5,a6,a7,a8,a9,b0⟩:=o;refine aA fun b1 b2=>?_;refine aA fun g7 b3=>?_;refine aA fun o b4=>?_;obtain⟨b5,b6,b8,b9,c0,c1,c2,c3,c4,c5⟩:=o;obtain rfl:=aH b4;intro h;obtain rfl:=cB h;exact aL (hs:=[.run 2,.dec false,.aJ,.run 1,.dec true,.aJ,.run 1,.call (aN a0 a1 a2 a3 a4 a5 a6 a7 a8 a9) b0,.bM AV.undef b1,.val (aN b5 b6 b8 b9 c0 c1 c2 c3 c4 c5)]) (by kernel_rfl) (aK b3<|aK (aP b2)<|aK (hR.Pv (n+2) (by omega) a (St.push b (.cells 32 true Mu)) _ Z)<|aK (gA e)<|aK (eW d) gD) (by kernel_rfl) (by kernel_rfl)
  ·refine aA fun o i=>?_;obtain⟨j,k,l,m,p,q,s,t,u,v,f⟩:=o;refine aA fun g w=>?_;refine aA fun o x=>?_
   rcases o with c6 | c7
   ·refine aA fun g8 c8=>?_;refine aA fun o c9=>?_;obtain⟨d0,d1,d2,d3,d4,d5,d6,d7,d8,d9⟩:=o;obtain rfl:=aH c9;intro h;obtain rfl:=cB h;exact aL (hs:=[.run 2,.dec false,.aJ,.run 1,.dec false,.aJ,.run 3,.call (aN j k l m p q s t u v) f,.run 1,.bM AV.undef g,.aJ,.abs [0,1,4,5] .ret [] c6,.val (aN d0 d1 d2 d3 d4 d5 d6 d7 d8 d9)]) (by kernel_rfl) (aK c8<|aK (cW (mH R n hR a c (St.next b) (St.next f) R.n g _ x))<|aK (aP w)<|aK (hR.PI (n+2) (by omega) a (IntKind.wrap .i64 (c+1)) (St.push b (.cells 32 true Mu)) _ i)<|aK (eW e)<|aK (eW d) gD) (by kernel_rfl) (by kernel_rfl)
   ·refine aA fun g9 e0=>?_;refine aA fun o e1=>?_;obtain⟨e2,e3,e4,e5,e6,e7,e8,e9,f0,f1⟩:=o;obtain rfl:=aH e1;refine aA fun f2 f3=>?_;refine aA fun h0 f4=>?_;refine aA fun o f5=>?_;obtain⟨f6,f7,f8,f9,g0,g1,g2,g3,g4,g5⟩:=o;obtain rfl:=aH f5;intro h;obtain rfl:=cB h;exact aL (hs:=[.run 2,.dec false,.aJ,.run 1,.dec false,.aJ,.run 3,.call (aN j k l m p q s t u v) f,.run 1,.bM AV.undef g,.aJ,.abs [0,1,4,5] (.exit 0) [] c7,.val (aN e2 e3 e4 e5 e6 e7 e8 e9 f0 f1),.bM AV.undef f2,.val (aN f6 f7 f8 f9 g0 g1 g2 g3 g4 g5)]) (by kernel_rfl) (aK f4<|aK (aP f3)<|aK e0<|aK (cW (mH R n hR a c (St.next b) (St.next f) R.n g _ x))<|aK (aP w)<|aK (hR.PI (n+2) (by omega) a (IntKind.wrap .i64 (c+1)) (St.push b (.cells 32 true Mu)) _ i)<|aK (eW e)<|aK (eW d) gD) (by kernel_rfl) (by kernel_rfl)
noncomputable def cY (R:gO)(d:AV)(a:St):Option (St):=
 (loadAt C0.P a 49 d).bind fun b=>
 (aZ b).bind fun _=>
 (shift b 2).bind fun c=>
 (loadAt C0.P a 3 c).bind fun e=>
 (eP .i64 e).bind fun f=>
 (aZ b).bind fun _=>
 (storeAt C0.P a 3 c (.int .i64 (IntKind.wrap .i64 (f - 1)))).bind fun g=>
 some g
theorem dT {R:gO}(n:Nat)(hR:R.ok n){b:AV}{c:St}{r:St}(h:cY R b c=some r):
 EY (aR C0 cK R.n (n+1)) 64 [b] c (.tuple []) r:=by
 revert h;unfold cY;refine aA fun a f=>?_;refine aA fun _o g=>?_;refine aA fun d e=>?_;refine aA fun p i=>?_;refine aA fun j k=>?_;obtain rfl:=cA k;refine aA fun _o l=>?_;refine aA fun m o=>?_;intro h;obtain rfl:=cB h;exact KU (hs:=[.val a,.val a,.val d,.val (.int .i64 j),.run 1,.val a,.val d,.bM AV.undef m]) (by kernel_rfl) (aK (aP o)<|aK e<|aK (cC l)<|aK i<|aK e<|aK (cC g)<|aK f gD) (by kernel_rfl) (by kernel_rfl)
noncomputable def dQ (R:gO)(b:AV)(c:AV)(d:List UInt8)(e:St):Option (St):=
 (bK R.n c d e).bind fun(f,a)=>
 if f=true then
  some a
 else
  (bJ R.n b 120 a).bind fun g=>
  some g
theorem nP {R:gO}(n:Nat)(hR:R.ok n){b:AV}{c:AV}{d:List UInt8}{e:St}{r:St}(h:dQ R b c d e=some r):
 b7 (aR C0 cK R.n (n+3)) false 24 [b,(.func (.func 22) [c] []),(.str d)] e (.tuple []) r:=by
 revert h;unfold dQ;refine aA fun o f=>?_;obtain⟨k,g⟩:=o;refine bD (fun a=>?_) (fun a=>?_)
 ·subst a;intro h;obtain rfl:=cB h;exact aL (hs:=[.run 2,.call (.bool true) g,.run 1,.aJ]) (by kernel_rfl) (aK (bA n f) gD) (by kernel_rfl) (by kernel_rfl)
 ·obtain rfl:=bF a;refine aA fun i j=>?_;intro h;obtain rfl:=cB h;exact aL (hs:=[.run 2,.call (.bool false) g,.run 1,.aJ,.run 1,.call (.tuple []) i]) (by kernel_rfl) (aK (bO (n+1) j)<|aK (bA n f) gD) (by kernel_rfl) (by kernel_rfl)
noncomputable def jK (R:gO)(a:AV)(a8:Nat)(b:Nat)(h:Bool)(d:St):Option (St):=
 if h=true then
  (bK R.n a [78,79,84] d).bind fun(i,j)=>
  (dQ R a a [78,85,76,76] j).bind fun e=>
  (loadAt C0.P e 32 (.ref b 0)).bind fun k=>
  (aI k).bind fun(l,m,o,p,q,r,s,t,u,v)=>
  (eK (aU C0.P (C0.bU 41) 30 1 [(0,(.agg [(.int .i64 l),(.str m),(.int .i64 o),(.bool p),(.int .i64 q),(.str r),s,t,u,v]))]) e).bind fun(f,w)=>
  (AQ f).bind fun _=>
  (bV R.n a 5 [] 0 false 0 [] AV.aB AV.aB f AV.aB w).bind fun(x,y,z,A,B,C,D,E,F,G,H)=>
  (storeAt C0.P H 32 (.ref b 0) (.agg [(.int .i64 x),(.str y),(.int .i64 z),(.bool A),(.int .i64 B),(.str C),D,E,F,G])).bind fun c=>
  if i=true then
   (loadAt C0.P c 32 (.ref b 0)).bind fun I=>
   (aI I).bind fun(J,K,L,M,N,O,Q,S,T,U)=>
   (eK (aU C0.P (C0.bU 41) 30 1 [(0,(.agg [(.int .i64 J),(.str K),(.int .i64 L),(.bool M),(.int .i64 N),(.str O),Q,S,T,U]))]) c).bind fun(g,V)=>
   (AQ g).bind fun _=>
   (bV R.n a 4 [] 0 false 0 [] AV.aB AV.aB g AV.aB V).bind fun(W,X,Y,Z,a0,a1,a2,a3,a4,a5,a6)=>
   (storeAt C0.P a6 32 (.ref b 0) (.agg [(.int .i64 W),(.str X),(.int .i64 Y),(.bool Z),(.int .i64 a0),(.str a1),a2,a3,a4,a5])).bind fun a7=>
   some a7
  else
   some c
 else
  some d
theorem tI {R:gO}(n:Nat)(hR:R.ok n){d:AV}{e:Nat}{f:Nat}{g:Bool}{i:St}{r:St}(h:jK R d e f g i=some r):
 cM 37 (bN C0 (aR C0 cK R.n (n+3)) 41 R.n none (aQ C0.P 41 [1,1,1,0,1])) (bG (aQ C0.P 41 [1,1,1,0,1])) [(0,d),(2,(.ref e 0)),(3,(.ref f 0)),(18,(.bool g))] i .normal [] r:=by
 revert h;unfold jK;refine bD (fun b=>?_) (fun b=>?_)
 ·subst b;refine aA fun o M=>?_;obtain⟨c5,j⟩:=o;refine aA fun k N=>?_;refine aA fun c6 O=>?_;refine aA fun o Q=>?_;obtain⟨l,m,p,q,s,t,u,v,w,x⟩:=o;obtain rfl:=aH Q;refine aA fun o S=>?_;obtain⟨a,y⟩:=o;refine aA fun _o T=>?_;refine aA fun o U=>?_;obtain⟨z,A,B,C,D,E,F,G,H,I,J⟩:=o;refine aA fun K V=>?_;have q9021:=aK (aP V)<|aK (bX (n+1) U)<|aK (nH (rfl:AV.cells (.int .i64 5)=[(.int .i64 5)]) (nH (rE T) (zA)))<|aK S<|aK O<|aK (nP n (hR.mono (by omega)) N)<|aK (bA (n+1) M) gD
  refine bD (fun c=>?_) (fun c=>?_)
  ·subst c;refine aA fun c7 W=>?_;refine aA fun o X=>?_;obtain⟨Y,Z,a0,a1,a2,a3,a4,a5,a6,a7⟩:=o;obtain rfl:=aH X;refine aA fun o a8=>?_;obtain⟨L,a9⟩:=o;refine aA fun _o b0=>?_;refine aA fun o b1=>?_;obtain⟨b2,b3,b4,b5,b6,b7,b8,b9,c0,c1,c2⟩:=o;refine aA fun c3 c4=>?_;intro h;obtain rfl:=cB h;exact aO (hs:=[.aJ,.run 1,.call (.bool true) j,.run 4,.call (.tuple []) k,.run 1,.val (aN l m p q s t u v w x),.bM a y,.JY [[(.int .i64 5)],[a]],.call (aN z A B C D E F G H I) J,.bM AV.undef K,.run 1,.aJ,.run 1,.val (aN Y Z a0 a1 a2 a3 a4 a5 a6 a7),.bM L a9,.JY [[(.int .i64 4)],[L]],.call (aN b2 b3 b4 b5 b6 b7 b8 b9 c0 c1) c2,.bM AV.undef c3]) (want:=[]) (by kernel_rfl) (aK (aP c4)<|aK (bX (n+1) b1)<|aK (nH (rfl:AV.cells (.int .i64 4)=[(.int .i64 4)]) (nH (rE b0) (zA)))<|aK a8<|aK W q9021)
  ·obtain rfl:=bF c;intro h;obtain rfl:=cB h;exact aO (hs:=[.aJ,.run 1,.call (.bool false) j,.run 4,.call (.tuple []) k,.run 1,.val (aN l m p q s t u v w x),.bM a y,.JY [[(.int .i64 5)],[a]],.call (aN z A B C D E F G H I) J,.bM AV.undef K,.run 1,.aJ]) (want:=[]) (by kernel_rfl) (q9021)
 ·obtain rfl:=bF b;intro h;obtain rfl:=cB h;exact aO (hs:=[.aJ]) (want:=[]) (by kernel_rfl) .nil
noncomputable def lK (R:gO)(a:AV)(b:St):Option (Int×List UInt8×Int×Bool×Int×List UInt8×AV×AV×AV×AV×St):=
 (bK R.n a [78,79,84] (St.push b (.cells 32 true [(.int .i64 0),(.str []),(.int .i64 0),(.bool false),(.int .i64 0),(.str []),AV.aB,AV.aB,AV.aB,AV.aB]))).bind fun(i,d)=>
 if i=true then
  (jB R.n a d).bind fun(j,k)=>
  (R.f41 a k).bind fun(l,m,o,p,q,r,s,t,u,v,w)=>
  (eK (aU C0.P (C0.bU 41) 30 1 [(0,(.agg [(.int .i64 l),(.str m),(.int .i64 o),(.bool p),(.int .i64 q),(.str r),s,t,u,v]))]) w).bind fun(e,x)=>
  (AQ e).bind fun _=>
  (bV R.n a 4 [] 0 false 0 [] AV.aB AV.aB e AV.aB x).bind fun(y,z,A,B,C,D,E,F,G,H,I)=>
  (storeAt C0.P I 32 (.ref (St.next b) 0) (.agg [(.int .i64 y),(.str z),(.int .i64 A),(.bool B),(.int .i64 C),(.str D),E,F,G,H])).bind fun J=>
  (cY R j J).bind fun f=>
  (loadAt C0.P f 32 (.ref (St.next b) 0)).bind fun K=>
  (aI K).bind fun(L,M,N,O,Q,S,T,U,V,W)=>
  some (L,M,N,O,Q,S,T,U,V,W,f)
 else
  (dR R a 3 d).bind fun(X,Y,Z,a0,a1,a2,a3,a4,a5,a6,c)=>
  (storeAt C0.P (St.push c (.cells 32 true [(.int .i64 0),(.str []),(.int .i64 0),(.bool false),(.int .i64 0),(.str []),AV.aB,AV.aB,AV.aB,AV.aB])) 32 (.ref (St.next c) 0) (.agg [(.int .i64 X),(.str Y),(.int .i64 Z),(.bool a0),(.int .i64 a1),(.str a2),a3,a4,a5,a6])).bind fun a7=>
  (bK R.n a [73,83] a7).bind fun(a8,a9)=>
  (jK R a (St.next b) (St.next c) a8 a9).bind fun g=>
  (loadAt C0.P g 32 (.ref (St.next c) 0)).bind fun b0=>
  (aI b0).bind fun(b1,b2,b3,b4,b5,b6,b7,b8,b9,c0)=>
  (storeAt C0.P g 32 (.ref (St.next b) 0) (.agg [(.int .i64 b1),(.str b2),(.int .i64 b3),(.bool b4),(.int .i64 b5),(.str b6),b7,b8,b9,c0])).bind fun h=>
  (loadAt C0.P h 32 (.ref (St.next b) 0)).bind fun c1=>
  (aI c1).bind fun(c2,c3,c4,c5,c6,c7,c8,c9,d0,d1)=>
  some (c2,c3,c4,c5,c6,c7,c8,c9,d0,d1,h)
theorem zW {R:gO}(n:Nat)(hR:R.ok n){a:AV}{c:St}{r:Int×List UInt8×Int×Bool×Int×List UInt8×AV×AV×AV×AV×St}(h:lK R a c=some r):
 b7 (aR C0 cK R.n (n+4)) false 41 [a] c (.agg [.int .i64 r.1,.str r.2.1,.int .i64 r.2.2.1,.bool r.2.2.2.1,.int .i64 r.2.2.2.2.1,.str r.2.2.2.2.2.1,r.2.2.2.2.2.2.1,r.2.2.2.2.2.2.2.1,r.2.2.2.2.2.2.2.2.1,r.2.2.2.2.2.2.2.2.2.1]) r.2.2.2.2.2.2.2.2.2.2:=by
 revert h;unfold lK;refine aA fun o d=>?_;obtain⟨f1,e⟩:=o;refine bD (fun b=>?_) (fun b=>?_)
 ·subst b;refine aA fun o i=>?_;obtain⟨j,f⟩:=o;refine aA fun o k=>?_;obtain⟨l,m,p,q,s,t,u,v,w,x,y⟩:=o;refine aA fun o z=>?_;obtain⟨g,A⟩:=o;refine aA fun _o B=>?_;refine aA fun o C=>?_;obtain⟨D,E,F,G,H,I,J,K,L,M,N⟩:=o;refine aA fun O P=>?_;refine aA fun Q S=>?_;refine aA fun f2 T=>?_;refine aA fun o U=>?_;obtain⟨V,W,X,Y,Z,a0,a1,a2,a3,a4⟩:=o;obtain rfl:=aH U;intro h;obtain rfl:=cB h;exact aL (hs:=[.run 2,.call (.bool true) e,.aJ,.run 1,.call (.func (.func 64) [] [j]) f,.run 2,.call (aN l m p q s t u v w x) y,.bM g A,.JY [[(.int .i64 4)],[g]],.call (aN D E F G H I J K L M) N,.bM AV.undef O,.call (.tuple []) Q,.val (aN V W X Y Z a0 a1 a2 a3 a4)]) (by kernel_rfl) (aK T<|aK (dT (n+2) (hR.mono (by omega)) S)<|aK (aP P)<|aK (bX (n+1) C)<|aK (nH (rfl:AV.cells (.int .i64 4)=[(.int .i64 4)]) (nH (rE B) (zA)))<|aK z<|aK (hR.Pv (n+3) (by omega) a f _ k)<|aK (qT (n+1) i)<|aK (bA (n+1) d) gD) (by kernel_rfl) (by kernel_rfl)
 ·obtain rfl:=bF b;refine aA fun o a5=>?_;obtain⟨a6,a7,a8,a9,b0,b1,b2,b3,b4,b5,b6⟩:=o;refine aA fun b8 b9=>?_;refine aA fun o c0=>?_;obtain⟨c1,c2⟩:=o;refine aA fun c3 c4=>?_;refine aA fun f3 c5=>?_;refine aA fun o c6=>?_;obtain⟨c7,c8,c9,d0,d1,d2,d3,d4,d5,d6⟩:=o;obtain rfl:=aH c6;refine aA fun d7 d8=>?_;refine aA fun f4 d9=>?_;refine aA fun o e0=>?_;obtain⟨e1,e2,e3,e4,e5,e6,e7,e8,e9,f0⟩:=o;obtain rfl:=aH e0;intro h;obtain rfl:=cB h;exact aL (hs:=[.run 2,.call (.bool false) e,.aJ,.run 1,.call (aN a6 a7 a8 a9 b0 b1 b2 b3 b4 b5) b6,.run 1,.bM AV.undef b8,.run 1,.call (.bool c1) c2,.eE [0,2,3,18] .normal [] c3,.val (aN c7 c8 c9 d0 d1 d2 d3 d4 d5 d6),.bM AV.undef d7,.val (aN e1 e2 e3 e4 e5 e6 e7 e8 e9 f0)]) (by kernel_rfl) (aK d9<|aK (aP d8)<|aK c5<|aK (tI n hR c4)<|aK (bA (n+1) c0)<|aK (aP b9)<|aK (fU n (hR.mono (by omega)) a5)<|aK (bA (n+1) d) gD) (by kernel_rfl) (by kernel_rfl)
noncomputable def bZ (R:gO)(b:AV)(c:AV)(d:List UInt8)(e:St):Option (St):=
 (cI R.n c d e).bind fun(f,a)=>
 if f=true then
  some a
 else
  (bJ R.n b 120 a).bind fun g=>
  some g
theorem dX {R:gO}(n:Nat)(hR:R.ok n){b:AV}{c:AV}{d:List UInt8}{e:St}{r:St}(h:bZ R b c d e=some r):
 b7 (aR C0 cK R.n (n+3)) false 24 [b,(.func (.func 39) [c] []),(.str d)] e (.tuple []) r:=by
 revert h;unfold bZ;refine aA fun o f=>?_;obtain⟨k,g⟩:=o;refine bD (fun a=>?_) (fun a=>?_)
 ·subst a;intro h;obtain rfl:=cB h;exact aL (hs:=[.run 2,.call (.bool true) g,.run 1,.aJ]) (by kernel_rfl) (aK (aY n f) gD) (by kernel_rfl) (by kernel_rfl)
 ·obtain rfl:=bF a;refine aA fun i j=>?_;intro h;obtain rfl:=cB h;exact aL (hs:=[.run 2,.call (.bool false) g,.run 1,.aJ,.run 1,.call (.tuple []) i]) (by kernel_rfl) (aK (bO (n+1) j)<|aK (aY n f) gD) (by kernel_rfl) (by kernel_rfl)
noncomputable def fN (R:gO)(c:AV)(a:St):Option (Int×List UInt8×Int×Bool×Int×List UInt8×AV×AV×AV×AV×St):=
 (loadAt C0.P (St.push a (.cells 32 true [(.int .i64 0),(.str []),(.int .i64 0),(.bool false),(.int .i64 0),(.str []),AV.aB,AV.aB,AV.aB,AV.aB])) 49 c).bind fun d=>
 (dR R d 0 (St.push a (.cells 32 true [(.int .i64 0),(.str []),(.int .i64 0),(.bool false),(.int .i64 0),(.str []),AV.aB,AV.aB,AV.aB,AV.aB]))).bind fun(e,f,g,h,i,j,k,l,m,n,o)=>
 (storeAt C0.P o 32 (.ref (St.next a) 0) (.agg [(.int .i64 e),(.str f),(.int .i64 g),(.bool h),(.int .i64 i),(.str j),k,l,m,n])).bind fun b=>
 (loadAt C0.P b 32 (.ref (St.next a) 0)).bind fun p=>
 (aI p).bind fun(q,r,s,t,u,v,w,x,y,z)=>
 some (q,r,s,t,u,v,w,x,y,z,b)
theorem lV {R:gO}(n:Nat)(hR:R.ok n){a:AV}{b:St}{r:Int×List UInt8×Int×Bool×Int×List UInt8×AV×AV×AV×AV×St}(h:fN R a b=some r):
 b7 (aR C0 cK R.n (n+4)) false 54 [a] b (.agg [.int .i64 r.1,.str r.2.1,.int .i64 r.2.2.1,.bool r.2.2.2.1,.int .i64 r.2.2.2.2.1,.str r.2.2.2.2.2.1,r.2.2.2.2.2.2.1,r.2.2.2.2.2.2.2.1,r.2.2.2.2.2.2.2.2.1,r.2.2.2.2.2.2.2.2.2.1]) r.2.2.2.2.2.2.2.2.2.2:=by
 revert h;unfold fN;refine aA fun c d=>?_;refine aA fun o e=>?_;obtain⟨f,g,i,j,k,l,m,p,q,s,t⟩:=o;refine aA fun u v=>?_;refine aA fun I w=>?_;refine aA fun o x=>?_;obtain⟨y,z,A,B,C,D,E,F,G,H⟩:=o;obtain rfl:=aH x;intro h;obtain rfl:=cB h;exact aL (hs:=[.run 1,.val c,.call (aN f g i j k l m p q s) t,.bM AV.undef u,.val (aN y z A B C D E F G H)]) (by kernel_rfl) (aK w<|aK (aP v)<|aK (fU n (hR.mono (by omega)) e)<|aK d gD) (by kernel_rfl) (by kernel_rfl)
noncomputable def cT (R:gO)(a:AV)(d:List UInt8)(e:AV)(f:AV)(b:St):Option (St):=
 (bZ R a a [44] b).bind fun c=>
 some c
theorem fI {R:gO}(n:Nat)(hR:R.ok n){a:AV}{b:List UInt8}{c:AV}{d:AV}{e:St}{r:St}(h:cT R a b c d e=some r):
 cM 37 (bN C0 (aR C0 cK R.n (n+4)) 53 R.n none (aQ C0.P 53 [1,1,0,0,0,1,0,0,1])) (bG (aQ C0.P 53 [1,1,0,0,0,1,0,0,1])) [(0,a),(1,(.str b)),(2,(.func (.func 54) [] [c])),(7,d),(21,(.bool true))] e .normal [] r:=by
 revert h;unfold cT;refine aA fun f g=>?_;intro h;obtain rfl:=cB h;exact aO (hs:=[.aJ,.run 3,.call (.tuple []) f]) (want:=[]) (by kernel_rfl) (aK (dX (n+1) (hR.mono (by omega)) g) gD)
noncomputable def cQ (R:gO)(a:AV)(d:List UInt8)(e:AV)(f:AV)(b:St):Option (St):=
 (bJ R.n a 3 b).bind fun c=>
 some c
theorem jV {R:gO}(n:Nat)(hR:R.ok n){a:AV}{b:List UInt8}{c:AV}{d:AV}{e:St}{r:St}(h:cQ R a b c d e=some r):
 cM 37 (bN C0 (aR C0 cK R.n (n+4)) 53 R.n none (aQ C0.P 53 [1,1,0,0,0,1,0,1,0,1])) (bG (aQ C0.P 53 [1,1,0,0,0,1,0,1,0,1])) [(0,a),(1,(.str b)),(2,(.func (.func 54) [] [c])),(7,d),(28,(.bool true))] e .normal [] r:=by
 revert h;unfold cQ;refine aA fun f g=>?_;intro h;obtain rfl:=cB h;exact aO (hs:=[.aJ,.run 1,.call (.tuple []) f]) (want:=[]) (by kernel_rfl) (aK (bO (n+3) g) gD)
noncomputable def bQ (R:gO)(a:AV)(b:List UInt8)(c:AV)(d:AV):Option (Unit):=
 some ()
theorem eT {R:gO}(n:Nat)(hR:R.ok n){a:AV}{b:List UInt8}{c:AV}{d:AV}(e:St){r:Unit}(h:bQ R a b c d=some r):
 cM 37 (bN C0 (aR C0 cK R.n (n+4)) 53 R.n none (aQ C0.P 53 [1,1,0,0,0,1,0,1,0,1])) (bG (aQ C0.P 53 [1,1,0,0,0,1,0,1,0,1])) [(0,a),(1,(.str b)),(2,(.func (.func 54) [] [c])),(7,d),(28,(.bool false))] e .normal [] e:=by
 revert h;unfold bQ;intro h;obtain rfl:=cB h;exact aO (hs:=[.aJ]) (want:=[]) (by kernel_rfl) .nil
noncomputable def cO (R:gO)(a:AV)(b:List UInt8)(c:AV)(d:AV):Option (Unit):=
 some ()
theorem jQ {R:gO}(n:Nat)(hR:R.ok n){a:AV}{b:List UInt8}{c:AV}{d:AV}(e:St){r:Unit}(h:cO R a b c d=some r):
 cM 37 (bN C0 (aR C0 cK R.n (n+4)) 53 R.n none (aQ C0.P 53 [1,1,0,0,0,1,0,0,1])) (bG (aQ C0.P 53 [1,1,0,0,0,1,0,0,1])) [(0,a),(1,(.str b)),(2,(.func (.func 54) [] [c])),(7,d),(21,(.bool false))] e .normal [] e:=by
 revert h;unfold cO;intro h;obtain rfl:=cB h;exact aO (hs:=[.aJ]) (want:=[]) (by kernel_rfl) .nil
noncomputable def bH (R:gO)(a:AV)(d:List UInt8)(b:AV):Nat→AV→St→Option ((AV×St))
 | 0,_,_=>none
 | r + 1, c, e =>
   (aZ a).bind fun _=>
   (shift a 5).bind fun h=>
   (loadAt C0.P e 35 h).bind fun i=>
   (eP .i64 i).bind fun j=>
   if (j = 0) then
    (cI R.n a d e).bind fun(k,f)=>
    if k=true then
     some (c,f)
    else
     (lenOf c).bind fun n2003=>
     if((n2003:Int)>0) then
      (cT R a d b c f).bind fun g=>
      if((n2003:Int)≥32) then
       (cQ R a d b c g).bind fun l=>
       (fN R b l).bind fun(m,o,p,q,s,t,u,v,w,x,y)=>
       (eK (aU C0.P (C0.bU 53) 30 1 [(0,(.agg [(.int .i64 m),(.str o),(.int .i64 p),(.bool q),(.int .i64 s),(.str t),u,v,w,x]))]) y).bind fun(z,A)=>
       (bW C0.P (C0.bU 53) A #[30,30] c z).bind fun(B,C)=>
       bH R a d b r B C
      else
       (bQ R a d b c).bind fun _=>
       (fN R b g).bind fun(D,E,F,G,H,I,J,K,L,M,N)=>
       (eK (aU C0.P (C0.bU 53) 30 1 [(0,(.agg [(.int .i64 D),(.str E),(.int .i64 F),(.bool G),(.int .i64 H),(.str I),J,K,L,M]))]) N).bind fun(O,Q)=>
       (bW C0.P (C0.bU 53) Q #[30,30] c O).bind fun(S,T)=>
       bH R a d b r S T
     else
      (cO R a d b c).bind fun _=>
      (bQ R a d b c).bind fun _=>
      (fN R b f).bind fun(U,V,W,X,Y,Z,a0,a1,a2,a3,a4)=>
      (eK (aU C0.P (C0.bU 53) 30 1 [(0,(.agg [(.int .i64 U),(.str V),(.int .i64 W),(.bool X),(.int .i64 Y),(.str Z),a0,a1,a2,a3]))]) a4).bind fun(a5,a6)=>
      (bW C0.P (C0.bU 53) a6 #[30,30] c a5).bind fun(a7,a8)=>
      bH R a d b r a7 a8
   else
    some (c,e)
noncomputable def eB (o:(AV×St)):cZ×List (Nat×AV)×St:=match o with
 | (a0,a1)=>((.exit 0),[(7,a0)],a1)
theorem lD (R : gO) (n : Nat) (hR : R.ok n) (b : AV) (x : List UInt8) (y : AV) : ∀ (r : Nat) (m : AV) (p : St) (o : (AV × St)), bH R b x y r m p = some o →
 cM 37 (lO (fun fr k=>bN C0 (aR C0 cK R.n (n+4)) 53 R.n none (aQ C0.P 53 [1,1,0,0,0]) fr k) r) (bG (aQ C0.P 53 [1,1,0,0,0])) [(0,b),(1,(.str x)),(2,(.func (.func 54) [] [y])),(7,m)] p (eB o).1 (eB o).2.1 (eB o).2.2:=by
 intro r
 induction r with
 | zero=>intro m p o h; exact nomatch h
 | succ r ih =>
   intro m p o
   unfold bH;refine aA fun _o f=>?_;refine aA fun g i=>?_;refine aA fun d6 j=>?_;refine aA fun l G=>?_;obtain rfl:=cA G;refine bD (fun c=>?_) (fun c=>?_)
   ·refine aA fun o q=>?_;obtain⟨d7,a⟩:=o;refine bD (fun v=>?_) (fun v=>?_)
    ·subst v;intro h;obtain rfl:=cB h;exact cF (aO (hs:=[.run 1,.val b,.val g,.val (.int .i64 l),.dec true,.run 3,.call (.bool true) a,.run 2,.aJ]) (want:=[7]) (by kernel_rfl) (.cons (aY (n+2) q)<|.cons (gA c)<|.cons j<|.cons i<|.cons (cC f) .nil)) (by kernel_rfl)
    ·obtain rfl:=bF v;refine aA fun n2003 d=>?_;refine bD (fun s=>?_) (fun s=>?_)
     ·refine aA fun u z=>?_;refine bD (fun w=>?_) (fun w=>?_)
      ·refine aA fun H I=>?_;refine aA fun o J=>?_;obtain⟨K,L,M,N,O,Q,S,T,U,V,W⟩:=o;refine aA fun o X=>?_;obtain⟨Y,Z⟩:=o;refine aA fun o a0=>?_;obtain⟨A,B⟩:=o;intro h;exact dP (aO (hs:=[.run 1,.val b,.val g,.val (.int .i64 l),.dec true,.run 3,.call (.bool false) a,.run 2,.aJ,.aJ,.run 1,.val (.int .i64 (n2003:Int)),.dec true,.eE [0,1,2,7,21] .normal [] u,.run 1,.val (.int .i64 (n2003:Int)),.dec true,.eE [0,1,2,7,28] .normal [] H,.run 2,.call (.agg [(.int .i64 K),(.str L),(.int .i64 M),(.bool N),(.int .i64 O),(.str Q),S,T,U,V]) W,.bM Y Z,.bM A B,.run 1]) (want:=[0,1,2,7]) (by kernel_rfl) (.cons a0<|.cons X<|.cons (lV n (hR.mono (by omega)) J)<|.cons (jV n hR I)<|.cons (decide_eq_true w)<|.cons (fD (P:=C0.P) (t:=30) (e:=32) (by kernel_rfl) d)<|.cons (fI n hR z)<|.cons (decide_eq_true s)<|.cons (fD (P:=C0.P) (t:=30) (e:=32) (by kernel_rfl) d)<|.cons (aY (n+2) q)<|.cons (gA c)<|.cons j<|.cons i<|.cons (cC f) .nil)) (ih A B _ h)
      ·refine aA fun _o a1=>?_;refine aA fun o a2=>?_;obtain⟨a3,a4,a5,a6,a7,a8,a9,b0,b1,b2,b3⟩:=o;refine aA fun o b4=>?_;obtain⟨b5,b6⟩:=o;refine aA fun o b7=>?_;obtain⟨C,D⟩:=o;intro h;exact dP (aO (hs:=[.run 1,.val b,.val g,.val (.int .i64 l),.dec true,.run 3,.call (.bool false) a,.run 2,.aJ,.aJ,.run 1,.val (.int .i64 (n2003:Int)),.dec true,.eE [0,1,2,7,21] .normal [] u,.run 1,.val (.int .i64 (n2003:Int)),.dec false,.eE [0,1,2,7,28] .normal [] u,.run 2,.call (.agg [(.int .i64 a3),(.str a4),(.int .i64 a5),(.bool a6),(.int .i64 a7),(.str a8),a9,b0,b1,b2]) b3,.bM b5 b6,.bM C D,.run 1]) (want:=[0,1,2,7]) (by kernel_rfl) (.cons b7<|.cons b4<|.cons (lV n (hR.mono (by omega)) a2)<|.cons (eT n hR u a1)<|.cons (decide_eq_false w)<|.cons (fD (P:=C0.P) (t:=30) (e:=32) (by kernel_rfl) d)<|.cons (fI n hR z)<|.cons (decide_eq_true s)<|.cons (fD (P:=C0.P) (t:=30) (e:=32) (by kernel_rfl) d)<|.cons (aY (n+2) q)<|.cons (gA c)<|.cons j<|.cons i<|.cons (cC f) .nil)) (ih C D _ h)
     ·refine aA fun _o b8=>?_;refine aA fun _o b9=>?_;refine aA fun o c0=>?_;obtain⟨c1,c2,c3,c4,c5,c6,c7,c8,c9,d0,d1⟩:=o;refine aA fun o d2=>?_;obtain⟨d3,d4⟩:=o;refine aA fun o d5=>?_;obtain⟨E,F⟩:=o;intro h;exact dP (aO (hs:=[.run 1,.val b,.val g,.val (.int .i64 l),.dec true,.run 3,.call (.bool false) a,.run 2,.aJ,.aJ,.run 1,.val (.int .i64 (n2003:Int)),.dec false,.eE [0,1,2,7,21] .normal [] a,.run 1,.val (.int .i64 (n2003:Int)),.dec false,.eE [0,1,2,7,28] .normal [] a,.run 2,.call (.agg [(.int .i64 c1),(.str c2),(.int .i64 c3),(.bool c4),(.int .i64 c5),(.str c6),c7,c8,c9,d0]) d1,.bM d3 d4,.bM E F,.run 1]) (want:=[0,1,2,7]) (by kernel_rfl) (.cons d5<|.cons d2<|.cons (lV n (hR.mono (by omega)) c0)<|.cons (eT n hR a b9)<|.cons (decide_eq_false (show ¬ ((n2003:Int)≥32) by omega))<|.cons (fD (P:=C0.P) (t:=30) (e:=32) (by kernel_rfl) d)<|.cons (jQ n hR a b8)<|.cons (decide_eq_false s)<|.cons (fD (P:=C0.P) (t:=30) (e:=32) (by kernel_rfl) d)<|.cons (aY (n+2) q)<|.cons (gA c)<|.cons j<|.cons i<|.cons (cC f) .nil)) (ih E F _ h)
   ·intro h;obtain rfl:=cB h;exact cF (aO (hs:=[.run 1,.val b,.val g,.val (.int .i64 l),.dec false,.run 2,.aJ]) (want:=[7]) (by kernel_rfl) (.cons (eW c)<|.cons j<|.cons i<|.cons (cC f) .nil)) (by kernel_rfl)
noncomputable def dM (R:gO)(a:AV)(b:List UInt8)(c:AV)(d:St):Option (AV×St):=
 (bH R a b c R.n AV.aB d).bind fun(e,f)=>
 some (e,f)
theorem lM {R:gO}(n:Nat)(hR:R.ok n){a:AV}{b:List UInt8}{c:AV}{d:St}{r:AV×St}(h:dM R a b c d=some r):
 cM 37 (bN C0 (aR C0 cK R.n (n+4)) 53 R.n none (aQ C0.P 53 [1,1,0])) (bG (aQ C0.P 53 [1,1,0])) [(0,a),(1,(.str b)),(2,(.func (.func 54) [] [c])),(7,AV.aB)] d .normal [(7,r.1)] r.2:=by
 revert h;unfold dM;refine aA fun o e=>?_;obtain⟨f,g⟩:=o;intro h;obtain rfl:=cB h;exact aO (hs:=[.aJ,.abs [0,1,2,7] (.exit 0) [(7,f)] g]) (want:=[7]) (by kernel_rfl) (aK (cW (lD R n hR a b c R.n AV.aB d _ e)) gD)
noncomputable def dW (R:gO)(a:AV)(b:List UInt8)(c:AV)(d:St):Option (AV×St):=
 (dM R a b c d).bind fun(e,f)=>
 some (e,f)
theorem mM {R:gO}(n:Nat)(hR:R.ok n){a:AV}{b:List UInt8}{c:AV}{d:St}{r:AV×St}(h:dW R a b c d=some r):
 b7 (aR C0 cK R.n (n+5)) false 53 [a,(.str b),(.func (.func 54) [] [c])] d r.1 r.2:=by
 revert h;unfold dW;refine aA fun o e=>?_;obtain⟨f,g⟩:=o;intro h;obtain rfl:=cB h;exact aL (hs:=[.run 2,.rX [0,1,2,7] .normal [(7,f)] g,.run 2]) (by kernel_rfl) (aK (lM n hR e) gD) (by kernel_rfl) (by kernel_rfl)
noncomputable def fL (R:gO)(b:Nat)(c:AV)(a:St):Option (Int×List UInt8×Int×Bool×Int×List UInt8×AV×AV×AV×AV×St):=
 (loadAt C0.P (St.push a (.cells 32 true [(.int .i64 0),(.str []),(.int .i64 0),(.bool false),(.int .i64 0),(.str []),AV.aB,AV.aB,AV.aB,AV.aB])) 22 (.ref b 0)).bind fun d=>
 (loadAt C0.P (St.push a (.cells 32 true [(.int .i64 0),(.str []),(.int .i64 0),(.bool false),(.int .i64 0),(.str []),AV.aB,AV.aB,AV.aB,AV.aB])) 49 c).bind fun j=>
 (cE R.n j (St.push a (.cells 32 true [(.int .i64 0),(.str []),(.int .i64 0),(.bool false),(.int .i64 0),(.str []),AV.aB,AV.aB,AV.aB,AV.aB]))).bind fun(k,e)=>
 (loadAt C0.P e 22 (.ref b 0)).bind fun l=>
 if AV.beq l d=true then
  (eK (aU C0.P (C0.bU 55) 22 1 [(0,(.str k))]) e).bind fun(m,o)=>
  (bW C0.P (C0.bU 55) o #[22,22] d m).bind fun(p,q)=>
  (storeAt C0.P q 22 (.ref b 0) p).bind fun f=>
  (loadAt C0.P f 49 c).bind fun g=>
  (bZ R g g [58] f).bind fun h=>
  (loadAt C0.P h 49 c).bind fun r=>
  (dR R r 0 h).bind fun(s,t,u,v,w,x,y,z,A,B,C)=>
  (storeAt C0.P C 32 (.ref (St.next a) 0) (.agg [(.int .i64 s),(.str t),(.int .i64 u),(.bool v),(.int .i64 w),(.str x),y,z,A,B])).bind fun i=>
  (loadAt C0.P i 32 (.ref (St.next a) 0)).bind fun D=>
  (aI D).bind fun(E,F,G,H,I,J,K,L,M,N)=>
  some (E,F,G,H,I,J,K,L,M,N,i)
 else
  none
theorem lY {R:gO}(n:Nat)(hR:R.ok n){a:Nat}{b:AV}{c:St}{r:Int×List UInt8×Int×Bool×Int×List UInt8×AV×AV×AV×AV×St}(h:fL R a b c=some r):
 b7 (aR C0 cK R.n (n+4)) false 55 [(.ref a 0),b] c (.agg [.int .i64 r.1,.str r.2.1,.int .i64 r.2.2.1,.bool r.2.2.2.1,.int .i64 r.2.2.2.2.1,.str r.2.2.2.2.2.1,r.2.2.2.2.2.2.1,r.2.2.2.2.2.2.2.1,r.2.2.2.2.2.2.2.2.1,r.2.2.2.2.2.2.2.2.2.1]) r.2.2.2.2.2.2.2.2.2.2:=by
 revert h;unfold fL;refine aA fun g i=>?_;refine aA fun j k=>?_;refine aA fun o l=>?_;obtain⟨m,p⟩:=o;refine aA fun a5 q=>?_;refine bD (fun d=>?_) (fun d=>?_)
 ·refine aA fun o s=>?_;obtain⟨t,u⟩:=o;refine aA fun o v=>?_;obtain⟨w,x⟩:=o;refine aA fun y z=>?_;refine aA fun e f=>?_;refine aA fun A B=>?_;refine aA fun C D=>?_;refine aA fun o E=>?_;obtain⟨F,G,H,I,J,K,L,M,N,O,P⟩:=o;refine aA fun Q S=>?_;refine aA fun a6 T=>?_;refine aA fun o U=>?_;obtain⟨V,W,X,Y,Z,a0,a1,a2,a3,a4⟩:=o;obtain rfl:=aH U;intro h;obtain rfl:=cB h;exact aL (hs:=[.run 1,.val g,.val j,.call (.str m) p,.bM t u,.bM w x,.bM AV.undef y,.val e,.val e,.run 1,.call (.tuple []) A,.val C,.call (aN F G H I J K L M N O) P,.bM AV.undef Q,.val (aN V W X Y Z a0 a1 a2 a3 a4)]) (by kernel_rfl) (aK T<|aK (aP S)<|aK (fU n (hR.mono (by omega)) E)<|aK D<|aK (dX n (hR.mono (by omega)) B)<|aK f<|aK f<|aK (aP z)<|aK v<|aK s<|aK (jE q d)<|aK (cG (n+1) l)<|aK k<|aK i gD) (by kernel_rfl) (by kernel_rfl)
 ·exact fun h=>nomatch h
noncomputable def cU (R:gO)(a:AV)(d:List UInt8)(e:Nat)(f:AV)(g:AV)(b:St):Option (St):=
 (bZ R a a [44] b).bind fun c=>
 some c
theorem fH {R:gO}(n:Nat)(hR:R.ok n){a:AV}{b:List UInt8}{c:Nat}{d:AV}{e:AV}{f:St}{r:St}(h:cU R a b c d e f=some r):
 cM 37 (bN C0 (aR C0 cK R.n (n+4)) 53 R.n none (aQ C0.P 53 [1,1,0,0,0,1,0,0,1])) (bG (aQ C0.P 53 [1,1,0,0,0,1,0,0,1])) [(0,a),(1,(.str b)),(2,(.func (.func 55) [] [(.ref c 0),d])),(7,e),(21,(.bool true))] f .normal [] r:=by
 revert h;unfold cU;refine aA fun g i=>?_;intro h;obtain rfl:=cB h;exact aO (hs:=[.aJ,.run 3,.call (.tuple []) g]) (want:=[]) (by kernel_rfl) (aK (dX (n+1) (hR.mono (by omega)) i) gD)
noncomputable def cR (R:gO)(a:AV)(d:List UInt8)(e:Nat)(f:AV)(g:AV)(b:St):Option (St):=
 (bJ R.n a 3 b).bind fun c=>
 some c
theorem jX {R:gO}(n:Nat)(hR:R.ok n){a:AV}{b:List UInt8}{c:Nat}{d:AV}{e:AV}{f:St}{r:St}(h:cR R a b c d e f=some r):
 cM 37 (bN C0 (aR C0 cK R.n (n+4)) 53 R.n none (aQ C0.P 53 [1,1,0,0,0,1,0,1,0,1])) (bG (aQ C0.P 53 [1,1,0,0,0,1,0,1,0,1])) [(0,a),(1,(.str b)),(2,(.func (.func 55) [] [(.ref c 0),d])),(7,e),(28,(.bool true))] f .normal [] r:=by
 revert h;unfold cR;refine aA fun g i=>?_;intro h;obtain rfl:=cB h;exact aO (hs:=[.aJ,.run 1,.call (.tuple []) g]) (want:=[]) (by kernel_rfl) (aK (bO (n+3) i) gD)
noncomputable def bR (R:gO)(a:AV)(b:List UInt8)(c:Nat)(d:AV)(e:AV):Option (Unit):=
 some ()
theorem eS {R:gO}(n:Nat)(hR:R.ok n){a:AV}{b:List UInt8}{c:Nat}{d:AV}{e:AV}(f:St){r:Unit}(h:bR R a b c d e=some r):
 cM 37 (bN C0 (aR C0 cK R.n (n+4)) 53 R.n none (aQ C0.P 53 [1,1,0,0,0,1,0,1,0,1])) (bG (aQ C0.P 53 [1,1,0,0,0,1,0,1,0,1])) [(0,a),(1,(.str b)),(2,(.func (.func 55) [] [(.ref c 0),d])),(7,e),(28,(.bool false))] f .normal [] f:=by
 revert h;unfold bR;intro h;obtain rfl:=cB h;exact aO (hs:=[.aJ]) (want:=[]) (by kernel_rfl) .nil
noncomputable def cN (R:gO)(a:AV)(b:List UInt8)(c:Nat)(d:AV)(e:AV):Option (Unit):=
 some ()
theorem jR {R:gO}(n:Nat)(hR:R.ok n){a:AV}{b:List UInt8}{c:Nat}{d:AV}{e:AV}(f:St){r:Unit}(h:cN R a b c d e=some r):
 cM 37 (bN C0 (aR C0 cK R.n (n+4)) 53 R.n none (aQ C0.P 53 [1,1,0,0,0,1,0,0,1])) (bG (aQ C0.P 53 [1,1,0,0,0,1,0,0,1])) [(0,a),(1,(.str b)),(2,(.func (.func 55) [] [(.ref c 0),d])),(7,e),(21,(.bool false))] f .normal [] f:=by
 revert h;unfold cN;intro h;obtain rfl:=cB h;exact aO (hs:=[.aJ]) (want:=[]) (by kernel_rfl) .nil
noncomputable def bI (R:gO)(a:AV)(e:List UInt8)(b:Nat)(c:AV):Nat→AV→St→Option ((AV×St))
 | 0,_,_=>none
 | r + 1, d, f =>
   (aZ a).bind fun _=>
   (shift a 5).bind fun i=>
   (loadAt C0.P f 35 i).bind fun j=>
   (eP .i64 j).bind fun k=>
   if (k = 0) then
    (cI R.n a e f).bind fun(l,g)=>
    if l=true then
     some (d,g)
    else
     (lenOf d).bind fun n2362=>
     if((n2362:Int)>0) then
      (cU R a e b c d g).bind fun h=>
      if((n2362:Int)≥32) then
       (cR R a e b c d h).bind fun m=>
       (fL R b c m).bind fun(o,p,q,s,t,u,v,w,x,y,z)=>
       (eK (aU C0.P (C0.bU 53) 30 1 [(0,(.agg [(.int .i64 o),(.str p),(.int .i64 q),(.bool s),(.int .i64 t),(.str u),v,w,x,y]))]) z).bind fun(A,B)=>
       (bW C0.P (C0.bU 53) B #[30,30] d A).bind fun(C,D)=>
       bI R a e b c r C D
      else
       (bR R a e b c d).bind fun _=>
       (fL R b c h).bind fun(E,F,G,H,I,J,K,L,M,N,O)=>
       (eK (aU C0.P (C0.bU 53) 30 1 [(0,(.agg [(.int .i64 E),(.str F),(.int .i64 G),(.bool H),(.int .i64 I),(.str J),K,L,M,N]))]) O).bind fun(Q,S)=>
       (bW C0.P (C0.bU 53) S #[30,30] d Q).bind fun(T,U)=>
       bI R a e b c r T U
     else
      (cN R a e b c d).bind fun _=>
      (bR R a e b c d).bind fun _=>
      (fL R b c g).bind fun(V,W,X,Y,Z,a0,a1,a2,a3,a4,a5)=>
      (eK (aU C0.P (C0.bU 53) 30 1 [(0,(.agg [(.int .i64 V),(.str W),(.int .i64 X),(.bool Y),(.int .i64 Z),(.str a0),a1,a2,a3,a4]))]) a5).bind fun(a6,a7)=>
      (bW C0.P (C0.bU 53) a7 #[30,30] d a6).bind fun(a8,a9)=>
      bI R a e b c r a8 a9
   else
    some (d,f)
noncomputable def eA (o:(AV×St)):cZ×List (Nat×AV)×St:=match o with
 | (a0,a1)=>((.exit 0),[(7,a0)],a1)
theorem lF (R : gO) (n : Nat) (hR : R.ok n) (b : AV) (x : List UInt8) (y : Nat) (z : AV) : ∀ (r : Nat) (m : AV) (p : St) (o : (AV × St)), bI R b x y z r m p = some o →
 cM 37 (lO (fun fr k=>bN C0 (aR C0 cK R.n (n+4)) 53 R.n none (aQ C0.P 53 [1,1,0,0,0]) fr k) r) (bG (aQ C0.P 53 [1,1,0,0,0])) [(0,b),(1,(.str x)),(2,(.func (.func 55) [] [(.ref y 0),z])),(7,m)] p (eA o).1 (eA o).2.1 (eA o).2.2:=by
 intro r
 induction r with
 | zero=>intro m p o h; exact nomatch h
 | succ r ih =>
   intro m p o
   unfold bI;refine aA fun _o f=>?_;refine aA fun g i=>?_;refine aA fun d7 j=>?_;refine aA fun l H=>?_;obtain rfl:=cA H;refine bD (fun c=>?_) (fun c=>?_)
   ·refine aA fun o q=>?_;obtain⟨d8,a⟩:=o;refine bD (fun v=>?_) (fun v=>?_)
    ·subst v;intro h;obtain rfl:=cB h;exact cF (aO (hs:=[.run 1,.val b,.val g,.val (.int .i64 l),.dec true,.run 3,.call (.bool true) a,.run 2,.aJ]) (want:=[7]) (by kernel_rfl) (.cons (aY (n+2) q)<|.cons (gA c)<|.cons j<|.cons i<|.cons (cC f) .nil)) (by kernel_rfl)
    ·obtain rfl:=bF v;refine aA fun n2362 d=>?_;refine bD (fun s=>?_) (fun s=>?_)
     ·refine aA fun u A=>?_;refine bD (fun w=>?_) (fun w=>?_)
      ·refine aA fun I J=>?_;refine aA fun o K=>?_;obtain⟨L,M,N,O,Q,S,T,U,V,W,X⟩:=o;refine aA fun o Y=>?_;obtain⟨Z,a0⟩:=o;refine aA fun o a1=>?_;obtain⟨B,C⟩:=o;intro h;exact dP (aO (hs:=[.run 1,.val b,.val g,.val (.int .i64 l),.dec true,.run 3,.call (.bool false) a,.run 2,.aJ,.aJ,.run 1,.val (.int .i64 (n2362:Int)),.dec true,.eE [0,1,2,7,21] .normal [] u,.run 1,.val (.int .i64 (n2362:Int)),.dec true,.eE [0,1,2,7,28] .normal [] I,.run 2,.call (.agg [(.int .i64 L),(.str M),(.int .i64 N),(.bool O),(.int .i64 Q),(.str S),T,U,V,W]) X,.bM Z a0,.bM B C,.run 1]) (want:=[0,1,2,7]) (by kernel_rfl) (.cons a1<|.cons Y<|.cons (lY n (hR.mono (by omega)) K)<|.cons (jX n hR J)<|.cons (decide_eq_true w)<|.cons (fD (P:=C0.P) (t:=30) (e:=32) (by kernel_rfl) d)<|.cons (fH n hR A)<|.cons (decide_eq_true s)<|.cons (fD (P:=C0.P) (t:=30) (e:=32) (by kernel_rfl) d)<|.cons (aY (n+2) q)<|.cons (gA c)<|.cons j<|.cons i<|.cons (cC f) .nil)) (ih B C _ h)
      ·refine aA fun _o a2=>?_;refine aA fun o a3=>?_;obtain⟨a4,a5,a6,a7,a8,a9,b0,b1,b2,b3,b4⟩:=o;refine aA fun o b5=>?_;obtain⟨b6,b7⟩:=o;refine aA fun o b8=>?_;obtain⟨D,E⟩:=o;intro h;exact dP (aO (hs:=[.run 1,.val b,.val g,.val (.int .i64 l),.dec true,.run 3,.call (.bool false) a,.run 2,.aJ,.aJ,.run 1,.val (.int .i64 (n2362:Int)),.dec true,.eE [0,1,2,7,21] .normal [] u,.run 1,.val (.int .i64 (n2362:Int)),.dec false,.eE [0,1,2,7,28] .normal [] u,.run 2,.call (.agg [(.int .i64 a4),(.str a5),(.int .i64 a6),(.bool a7),(.int .i64 a8),(.str a9),b0,b1,b2,b3]) b4,.bM b6 b7,.bM D E,.run 1]) (want:=[0,1,2,7]) (by kernel_rfl) (.cons b8<|.cons b5<|.cons (lY n (hR.mono (by omega)) a3)<|.cons (eS n hR u a2)<|.cons (decide_eq_false w)<|.cons (fD (P:=C0.P) (t:=30) (e:=32) (by kernel_rfl) d)<|.cons (fH n hR A)<|.cons (decide_eq_true s)<|.cons (fD (P:=C0.P) (t:=30) (e:=32) (by kernel_rfl) d)<|.cons (aY (n+2) q)<|.cons (gA c)<|.cons j<|.cons i<|.cons (cC f) .nil)) (ih D E _ h)
     ·refine aA fun _o b9=>?_;refine aA fun _o c0=>?_;refine aA fun o c1=>?_;obtain⟨c2,c3,c4,c5,c6,c7,c8,c9,d0,d1,d2⟩:=o;refine aA fun o d3=>?_;obtain⟨d4,d5⟩:=o;refine aA fun o d6=>?_;obtain⟨F,G⟩:=o;intro h;exact dP (aO (hs:=[.run 1,.val b,.val g,.val (.int .i64 l),.dec true,.run 3,.call (.bool false) a,.run 2,.aJ,.aJ,.run 1,.val (.int .i64 (n2362:Int)),.dec false,.eE [0,1,2,7,21] .normal [] a,.run 1,.val (.int .i64 (n2362:Int)),.dec false,.eE [0,1,2,7,28] .normal [] a,.run 2,.call (.agg [(.int .i64 c2),(.str c3),(.int .i64 c4),(.bool c5),(.int .i64 c6),(.str c7),c8,c9,d0,d1]) d2,.bM d4 d5,.bM F G,.run 1]) (want:=[0,1,2,7]) (by kernel_rfl) (.cons d6<|.cons d3<|.cons (lY n (hR.mono (by omega)) c1)<|.cons (eS n hR a c0)<|.cons (decide_eq_false (show ¬ ((n2362:Int)≥32) by omega))<|.cons (fD (P:=C0.P) (t:=30) (e:=32) (by kernel_rfl) d)<|.cons (jR n hR a b9)<|.cons (decide_eq_false s)<|.cons (fD (P:=C0.P) (t:=30) (e:=32) (by kernel_rfl) d)<|.cons (aY (n+2) q)<|.cons (gA c)<|.cons j<|.cons i<|.cons (cC f) .nil)) (ih F G _ h)
   ·intro h;obtain rfl:=cB h;exact cF (aO (hs:=[.run 1,.val b,.val g,.val (.int .i64 l),.dec false,.run 2,.aJ]) (want:=[7]) (by kernel_rfl) (.cons (eW c)<|.cons j<|.cons i<|.cons (cC f) .nil)) (by kernel_rfl)
noncomputable def dL (R:gO)(a:AV)(b:List UInt8)(c:Nat)(d:AV)(e:St):Option (AV×St):=
 (bI R a b c d R.n AV.aB e).bind fun(f,g)=>
 some (f,g)
theorem lI {R:gO}(n:Nat)(hR:R.ok n){a:AV}{b:List UInt8}{c:Nat}{d:AV}{e:St}{r:AV×St}(h:dL R a b c d e=some r):
 cM 37 (bN C0 (aR C0 cK R.n (n+4)) 53 R.n none (aQ C0.P 53 [1,1,0])) (bG (aQ C0.P 53 [1,1,0])) [(0,a),(1,(.str b)),(2,(.func (.func 55) [] [(.ref c 0),d])),(7,AV.aB)] e .normal [(7,r.1)] r.2:=by
 revert h;unfold dL;refine aA fun o f=>?_;obtain⟨g,i⟩:=o;intro h;obtain rfl:=cB h;exact aO (hs:=[.aJ,.abs [0,1,2,7] (.exit 0) [(7,g)] i]) (want:=[7]) (by kernel_rfl) (aK (cW (lF R n hR a b c d R.n AV.aB e _ f)) gD)
noncomputable def dU (R:gO)(a:AV)(b:List UInt8)(c:Nat)(d:AV)(e:St):Option (AV×St):=
 (dL R a b c d e).bind fun(f,g)=>
 some (f,g)
theorem mP {R:gO}(n:Nat)(hR:R.ok n){a:AV}{b:List UInt8}{c:Nat}{d:AV}{e:St}{r:AV×St}(h:dU R a b c d e=some r):
 b7 (aR C0 cK R.n (n+5)) false 53 [a,(.str b),(.func (.func 55) [] [(.ref c 0),d])] e r.1 r.2:=by
 revert h;unfold dU;refine aA fun o f=>?_;obtain⟨g,i⟩:=o;intro h;obtain rfl:=cB h;exact aL (hs:=[.run 2,.rX [0,1,2,7] .normal [(7,g)] i,.run 2]) (by kernel_rfl) (aK (lI n hR f) gD) (by kernel_rfl) (by kernel_rfl)
noncomputable def kC (R:gO)(H:AV)(I:St):Option (Int×List UInt8×Int×Bool×Int×List UInt8×AV×AV×AV×AV×St):=
 (qP 49 H I).bind fun(a,b)=>
 (loadAt C0.P (St.push b (.cells 32 true [(.int .i64 0),(.str []),(.int .i64 0),(.bool false),(.int .i64 0),(.str []),AV.aB,AV.aB,AV.aB,AV.aB])) 49 a).bind fun J=>
 (jB R.n J (St.push b (.cells 32 true [(.int .i64 0),(.str []),(.int .i64 0),(.bool false),(.int .i64 0),(.str []),AV.aB,AV.aB,AV.aB,AV.aB]))).bind fun(d,e)=>
 (loadAt C0.P e 49 a).bind fun g=>
 (aZ g).bind fun _=>
 (shift g 0).bind fun K=>
 (loadAt C0.P e 40 K).bind fun L=>
 (aZ g).bind fun _=>
 (shift g 1).bind fun M=>
 (loadAt C0.P e 3 M).bind fun N=>
 (eP .i64 N).bind fun O=>
 (cV C0.P 40 L (.int .i64 O)).bind fun Q=>
 (loadAt C0.P e 26 Q).bind fun S=>
 (cD S).bind fun(T,U,V)=>
 (storeAt C0.P (St.push e (.cells 26 true [(.int .i64 0),(.str []),(.int .i64 0)])) 26 (.ref (St.next e) 0) (.agg [(.int .i64 T),(.str U),(.int .i64 V)])).bind fun q=>
 (loadAt C0.P q 49 a).bind fun W=>
 (cI R.n W [45] q).bind fun(X,h)=>
 if X=true then
  (loadAt C0.P h 49 a).bind fun k=>
  (R.f40 k h).bind fun(Y,Z,a0,a1,a2,a3,a4,a5,a6,a7,r)=>
  (loadAt C0.P r 49 a).bind fun a8=>
  if AV.beq a8 k=true then
   (eK (aU C0.P (C0.bU 40) 30 1 [(0,(.agg [(.int .i64 Y),(.str Z),(.int .i64 a0),(.bool a1),(.int .i64 a2),(.str a3),a4,a5,a6,a7]))]) r).bind fun(s,a9)=>
   (AQ s).bind fun _=>
   (bV R.n k 3 [] 0 false 0 [] AV.aB AV.aB s AV.aB a9).bind fun(b0,b1,b2,b3,b4,b5,b6,b7,b8,b9,c0)=>
   (storeAt C0.P c0 32 (.ref (St.next b) 0) (.agg [(.int .i64 b0),(.str b1),(.int .i64 b2),(.bool b3),(.int .i64 b4),(.str b5),b6,b7,b8,b9])).bind fun c1=>
   (cY R d c1).bind fun t=>
   (loadAt C0.P t 32 (.ref (St.next b) 0)).bind fun c2=>
   (aI c2).bind fun(c3,c4,c5,c6,c7,c8,c9,d0,d1,d2)=>
   some (c3,c4,c5,c6,c7,c8,c9,d0,d1,d2,t)
  else
   none
 else
  (loadAt C0.P h 49 a).bind fun d3=>
  (cI R.n d3 [40] h).bind fun(d4,i)=>
  if d4=true then
   (loadAt C0.P i 49 a).bind fun d5=>
   (dR R d5 0 i).bind fun(d6,d7,d8,d9,e0,e1,e2,e3,e4,e5,l)=>
   (storeAt C0.P (St.push l (.cells 32 true [(.int .i64 0),(.str []),(.int .i64 0),(.bool false),(.int .i64 0),(.str []),AV.aB,AV.aB,AV.aB,AV.aB])) 32 (.ref (St.next l) 0) (.agg [(.int .i64 d6),(.str d7),(.int .i64 d8),(.bool d9),(.int .i64 e0),(.str e1),e2,e3,e4,e5])).bind fun u=>
   (loadAt C0.P u 49 a).bind fun v=>
   (bZ R v v [41] u).bind fun w=>
   (loadAt C0.P w 32 (.ref (St.next l) 0)).bind fun e6=>
   (aI e6).bind fun(e7,e8,e9,f0,f1,f2,f3,f4,f5,f6)=>
   (storeAt C0.P w 32 (.ref (St.next b) 0) (.agg [(.int .i64 e7),(.str e8),(.int .i64 e9),(.bool f0),(.int .i64 f1),(.str f2),f3,f4,f5,f6])).bind fun f7=>
   (cY R d f7).bind fun x=>
   (loadAt C0.P x 32 (.ref (St.next b) 0)).bind fun f8=>
   (aI f8).bind fun(f9,g0,g1,g2,g3,g4,g5,g6,g7,g8)=>
   some (f9,g0,g1,g2,g3,g4,g5,g6,g7,g8,x)
  else
   (loadAt C0.P i 49 a).bind fun g9=>
   (cI R.n g9 [91] i).bind fun(h0,j)=>
   if h0=true then
    (loadAt C0.P j 49 a).bind fun h1=>
    (dW R h1 [93] a j).bind fun(y,m)=>
    (AQ y).bind fun _=>
    (storeAt C0.P (St.push m (.cells 32 true [(.int .i64 0),(.str []),(.int .i64 0),(.bool false),(.int .i64 0),(.str []),AV.aB,AV.aB,AV.aB,AV.aB])) 32 (.ref (St.next m) 0) (.agg [(.int .i64 7),(.str []),(.int .i64 0),(.bool false),(.int .i64 0),(.str []),AV.aB,AV.aB,y,AV.aB])).bind fun o=>
    (loadAt C0.P o 49 a).bind fun h2=>
    (loadAt C0.P o 32 (.ref (St.next m) 0)).bind fun h3=>
    (aI h3).bind fun(h4,h5,h6,h7,h8,h9,i0,i1,i2,i3)=>
    (bV R.n h2 h4 h5 h6 h7 h8 h9 i0 i1 i2 i3 o).bind fun(i4,i5,i6,i7,i9,j0,j1,j2,j3,j4,j5)=>
    (storeAt C0.P j5 32 (.ref (St.next b) 0) (.agg [(.int .i64 i4),(.str i5),(.int .i64 i6),(.bool i7),(.int .i64 i9),(.str j0),j1,j2,j3,j4])).bind fun j6=>
    (cY R d j6).bind fun z=>
    (loadAt C0.P z 32 (.ref (St.next b) 0)).bind fun j7=>
    (aI j7).bind fun(j8,j9,k0,k1,k2,k3,k4,k5,k6,k7)=>
    some (j8,j9,k0,k1,k2,k3,k4,k5,k6,k7,z)
   else
    (loadAt C0.P j 49 a).bind fun k8=>
    (cI R.n k8 [123] j).bind fun(k9,c)=>
    if k9=true then
     (storeAt C0.P (St.push (St.push c (.cells 22 true [AV.aB])) (.cells 32 true [(.int .i64 0),(.str []),(.int .i64 0),(.bool false),(.int .i64 0),(.str []),AV.aB,AV.aB,AV.aB,AV.aB])) 32 (.ref (St.next (St.push c (.cells 22 true [AV.aB]))) 0) (.agg [(.int .i64 8),(.str []),(.int .i64 0),(.bool false),(.int .i64 0),(.str []),AV.aB,AV.aB,AV.aB,AV.aB])).bind fun A=>
     (loadAt C0.P A 49 a).bind fun l0=>
     (dU R l0 [125] (St.next c) a A).bind fun(l1,l2)=>
     (storeAt C0.P l2 30 (.ref (St.next (St.push c (.cells 22 true [AV.aB]))) 8) l1).bind fun B=>
     (loadAt C0.P B 22 (.ref (St.next c) 0)).bind fun l3=>
     (storeAt C0.P B 22 (.ref (St.next (St.push c (.cells 22 true [AV.aB]))) 9) l3).bind fun p=>
     (loadAt C0.P p 49 a).bind fun l4=>
     (loadAt C0.P p 32 (.ref (St.next (St.push c (.cells 22 true [AV.aB]))) 0)).bind fun l5=>
     (aI l5).bind fun(l6,l7,l8,l9,m0,m1,m2,m3,m4,m5)=>
     (bV R.n l4 l6 l7 l8 l9 m0 m1 m2 m3 m4 m5 p).bind fun(m6,m7,m8,m9,n0,n1,n2,n3,n4,n5,n6)=>
     (storeAt C0.P n6 32 (.ref (St.next b) 0) (.agg [(.int .i64 m6),(.str m7),(.int .i64 m8),(.bool m9),(.int .i64 n0),(.str n1),n2,n3,n4,n5])).bind fun n7=>
     (cY R d n7).bind fun C=>
     (loadAt C0.P C 32 (.ref (St.next b) 0)).bind fun n8=>
     (aI n8).bind fun(n9,o0,o1,o2,o3,o4,o5,o6,o7,o8)=>
     some (n9,o0,o1,o2,o3,o4,o5,o6,o7,o8,C)
    else
     (loadAt C0.P c 3 (.ref (St.next e) 0)).bind fun o9=>
     (eP .i64 o9).bind fun p0=>
     if (p0 = 1) then
      (loadAt C0.P c 49 a).bind fun f=>
      (aZ f).bind fun _=>
      (shift f 5).bind fun p1=>
      (loadAt C0.P c 35 p1).bind fun p2=>
      (eP .i64 p2).bind fun p3=>
      if(p3=0) then
       (eY R.n f c).bind fun(p4,D)=>
       (loadAt C0.P D 49 a).bind fun p5=>
       if AV.beq p5 f=true then
        (bV R.n f 2 p4 0 false 0 [] AV.aB AV.aB AV.aB AV.aB D).bind fun(p6,p7,p8,p9,q0,q1,q2,q3,q4,q5,q6)=>
        (storeAt C0.P q6 32 (.ref (St.next b) 0) (.agg [(.int .i64 p6),(.str p7),(.int .i64 p8),(.bool p9),(.int .i64 q0),(.str q1),q2,q3,q4,q5])).bind fun q7=>
        (cY R d q7).bind fun E=>
        (loadAt C0.P E 32 (.ref (St.next b) 0)).bind fun q8=>
        (aI q8).bind fun(q9,r0,r1,r2,r3,r4,r5,r6,r7,r8)=>
        some (q9,r0,r1,r2,r3,r4,r5,r6,r7,r8,E)
       else
        none
      else
       (gY R.n f c).bind fun(r9,s0,s1,s2,s3,s4,s5,s6,s7,s8,s9)=>
       (storeAt C0.P s9 32 (.ref (St.next b) 0) (.agg [(.int .i64 r9),(.str s0),(.int .i64 s1),(.bool s2),(.int .i64 s3),(.str s4),s5,s6,s7,s8])).bind fun t0=>
       (cY R d t0).bind fun F=>
       (loadAt C0.P F 32 (.ref (St.next b) 0)).bind fun t1=>
       (aI t1).bind fun(t2,t3,t4,t5,t6,t7,t8,t9,u0,u1)=>
       some (t2,t3,t4,t5,t6,t7,t8,t9,u0,u1,F)
     else
      (loadAt C0.P c 49 a).bind fun u2=>
      (gY R.n u2 c).bind fun(u3,u4,u5,u6,u7,u9,v0,v1,v2,v3,v4)=>
      (storeAt C0.P v4 32 (.ref (St.next b) 0) (.agg [(.int .i64 u3),(.str u4),(.int .i64 u5),(.bool u6),(.int .i64 u7),(.str u9),v0,v1,v2,v3])).bind fun v5=>
      (cY R d v5).bind fun G=>
      (loadAt C0.P G 32 (.ref (St.next b) 0)).bind fun v6=>
      (aI v6).bind fun(v7,v8,v9,w0,w1,w2,w3,w4,w5,w6)=>
      some (v7,v8,v9,w0,w1,w2,w3,w4,w5,w6,G)
theorem xS {R : gO} (n : Nat) (hR : R.ok n) {L : AV} {M : St} {r : Int × List UInt8 × Int × Bool × Int × List UInt8 × AV × AV × AV × AV × St} (h : kC R L M = some r):
 b7 (aR C0 cK R.n (n+6)) false 40 [L] M (.agg [.int .i64 r.1,.str r.2.1,.int .i64 r.2.2.1,.bool r.2.2.2.1,.int .i64 r.2.2.2.2.1,.str r.2.2.2.2.2.1,r.2.2.2.2.2.2.1,r.2.2.2.2.2.2.2.1,r.2.2.2.2.2.2.2.2.1,r.2.2.2.2.2.2.2.2.2.1]) r.2.2.2.2.2.2.2.2.2.2:=by
 revert h;unfold kC;refine aA fun o Z=>?_;obtain⟨c,d⟩:=o;refine aA fun e a0=>?_;refine aA fun o a1=>?_;obtain⟨f,g⟩:=o;refine aA fun a N=>?_;refine aA fun _o a2=>?_;refine aA fun i a3=>?_;refine aA fun j a4=>?_;refine aA fun _o a5=>?_;refine aA fun k a6=>?_;refine aA fun F5 a7=>?_;refine aA fun l a8=>?_;obtain rfl:=cA a8;refine aA fun m a9=>?_;refine aA fun F6 b0=>?_;refine aA fun o b1=>?_;obtain⟨p,q,s⟩:=o;obtain rfl:=bT b1;refine aA fun t b2=>?_;refine aA fun u b3=>?_;refine aA fun o b4=>?_;obtain⟨F7,b⟩:=o;have q9022:=aK (aY (n+3) b4)<|aK b3<|aK (aP b2)<|aK b0<|aK a9<|aK a7<|aK a6<|aK (cC a5)<|aK N<|aK a4<|aK a3<|aK (cC a2)<|aK N<|aK (qT (n+3) a1)<|aK a0<|aK (xK Z) gD
 refine bD (fun D=>?_) (fun D=>?_)
 ·subst D;refine aA fun E O=>?_;refine aA fun o b5=>?_;obtain⟨b6,b8,b9,c0,c1,c2,c3,c4,c5,c6,c7⟩:=o;refine aA fun F8 c8=>?_;refine bD (fun P=>?_) (fun P=>?_)
  ·refine aA fun o c9=>?_;obtain⟨Q,d0⟩:=o;refine aA fun _o d1=>?_;refine aA fun o d2=>?_;obtain⟨d3,d4,d5,d6,d7,d8,d9,e0,e1,e2,e3⟩:=o;refine aA fun e4 e5=>?_;refine aA fun e6 e7=>?_;refine aA fun F9 e8=>?_;refine aA fun o e9=>?_;obtain⟨f0,f1,f2,f3,f4,f5,f6,f7,f8,f9⟩:=o;obtain rfl:=aH e9;intro h;obtain rfl:=cB h;exact aL (hs:=[.bM c d,.run 1,.val e,.call (.func (.func 64) [] [f]) g,.val a,.val a,.val i,.val j,.val a,.val a,.val k,.val (.int .i64 l),.val m,.val (eZ p q s),.run 1,.bM AV.undef t,.aJ,.val u,.call (.bool true) b,.run 1,.aJ,.val E,.val E,.call (aN b6 b8 b9 c0 c1 c2 c3 c4 c5 c6) c7,.bM Q d0,.JY [[(.int .i64 3)],[Q]],.call (aN d3 d4 d5 d6 d7 d8 d9 e0 e1 e2) e3,.bM AV.undef e4,.call (.tuple []) e6,.val (aN f0 f1 f2 f3 f4 f5 f6 f7 f8 f9)]) (by kernel_rfl) (aK e8<|aK (dT (n+4) (hR.mono (by omega)) e7)<|aK (aP e5)<|aK (bX (n+3) d2)<|aK (nH (rfl:AV.cells (.int .i64 3)=[(.int .i64 3)]) (nH (rE d1) (zA)))<|aK c9<|aK (jE c8 P)<|aK (hR.On (n+5) (by omega) E b _ b5)<|aK O<|aK O q9022) (by kernel_rfl) (by kernel_rfl)
  ·exact fun h=>nomatch h
 ·obtain rfl:=bF D;refine aA fun w g0=>?_;refine aA fun o g1=>?_;obtain⟨G0,x⟩:=o;have q9023:=aK (aY (n+3) g1)<|aK g0 q9022
  refine bD (fun F=>?_) (fun F=>?_)
  ·subst F;refine aA fun g2 g3=>?_;refine aA fun o g4=>?_;obtain⟨g5,g6,g7,g8,g9,h0,h1,h2,h3,h4,h5⟩:=o;refine aA fun h6 h7=>?_;refine aA fun S T=>?_;refine aA fun h8 h9=>?_;refine aA fun G1 i0=>?_;refine aA fun o i1=>?_;obtain⟨i2,i3,i4,i5,i6,i7,i9,j1,j2,j3⟩:=o;obtain rfl:=aH i1;refine aA fun j4 j5=>?_;refine aA fun j6 j7=>?_;refine aA fun G2 j8=>?_;refine aA fun o j9=>?_;obtain⟨k0,k1,k2,k3,k4,k5,k6,k7,k8,k9⟩:=o;obtain rfl:=aH j9;intro h;obtain rfl:=cB h;exact aL (hs:=[.bM c d,.run 1,.val e,.call (.func (.func 64) [] [f]) g,.val a,.val a,.val i,.val j,.val a,.val a,.val k,.val (.int .i64 l),.val m,.val (eZ p q s),.run 1,.bM AV.undef t,.aJ,.val u,.call (.bool false) b,.run 1,.aJ,.val w,.call (.bool true) x,.run 1,.aJ,.val g2,.call (aN g5 g6 g7 g8 g9 h0 h1 h2 h3 h4) h5,.run 1,.bM AV.undef h6,.val S,.val S,.run 1,.call (.tuple []) h8,.val (aN i2 i3 i4 i5 i6 i7 i9 j1 j2 j3),.bM AV.undef j4,.call (.tuple []) j6,.val (aN k0 k1 k2 k3 k4 k5 k6 k7 k8 k9)]) (by kernel_rfl) (aK j8<|aK (dT (n+4) (hR.mono (by omega)) j7)<|aK (aP j5)<|aK i0<|aK (dX (n+2) (hR.mono (by omega)) h9)<|aK T<|aK T<|aK (aP h7)<|aK (fU (n+2) (hR.mono (by omega)) g4)<|aK g3 q9023) (by kernel_rfl) (by kernel_rfl)
  ·obtain rfl:=bF F;refine aA fun y l0=>?_;refine aA fun o l1=>?_;obtain⟨G3,z⟩:=o;have q9024:=aK (aY (n+3) l1)<|aK l0 q9023
   refine bD (fun G=>?_) (fun G=>?_)
   ·subst G;refine aA fun l2 l3=>?_;refine aA fun o l4=>?_;obtain⟨U,l5⟩:=o;refine aA fun _o l6=>?_;refine aA fun l7 l8=>?_;refine aA fun l9 m0=>?_;refine aA fun G4 m1=>?_;refine aA fun o m2=>?_;obtain⟨m3,m4,m5,m6,m7,m8,m9,n0,n1,n2⟩:=o;obtain rfl:=aH m2;refine aA fun o n3=>?_;obtain⟨n4,n5,n6,n7,n8,n9,o0,o1,o2,o3,o4⟩:=o;refine aA fun o5 o6=>?_;refine aA fun o7 o8=>?_;refine aA fun G5 o9=>?_;refine aA fun o p0=>?_;obtain⟨p1,p2,p3,p4,p5,p6,p7,p8,p9,q0⟩:=o;obtain rfl:=aH p0;intro h;obtain rfl:=cB h;exact aL (hs:=[.bM c d,.run 1,.val e,.call (.func (.func 64) [] [f]) g,.val a,.val a,.val i,.val j,.val a,.val a,.val k,.val (.int .i64 l),.val m,.val (eZ p q s),.run 1,.bM AV.undef t,.aJ,.val u,.call (.bool false) b,.run 1,.aJ,.val w,.call (.bool false) x,.run 1,.aJ,.val y,.call (.bool true) z,.run 1,.aJ,.val l2,.run 1,.call U l5,.JY [[(.int .i64 7)],[U]],.run 1,.bM AV.undef l7,.val l9,.val (aN m3 m4 m5 m6 m7 m8 m9 n0 n1 n2),.call (aN n4 n5 n6 n7 n8 n9 o0 o1 o2 o3) o4,.bM AV.undef o5,.call (.tuple []) o7,.val (aN p1 p2 p3 p4 p5 p6 p7 p8 p9 q0)]) (by kernel_rfl) (aK o9<|aK (dT (n+4) (hR.mono (by omega)) o8)<|aK (aP o6)<|aK (bX (n+3) n3)<|aK m1<|aK m0<|aK (aP l8)<|aK (nH (rfl:AV.cells (.int .i64 7)=[(.int .i64 7)]) (nH (rE l6) (zA)))<|aK (mM n (hR.mono (by omega)) l4)<|aK l3 q9024) (by kernel_rfl) (by kernel_rfl)
   ·obtain rfl:=bF G;refine aA fun A q1=>?_;refine aA fun o q2=>?_;obtain⟨G6,B⟩:=o;have q9025:=aK (aY (n+3) q2)<|aK q1 q9024
    refine bD (fun H=>?_) (fun H=>?_)
    ·subst H;refine aA fun q3 q4=>?_;refine aA fun q5 q6=>?_;refine aA fun o q7=>?_;obtain⟨q8,q9⟩:=o;refine aA fun r0 r1=>?_;refine aA fun r2 r3=>?_;refine aA fun r4 r5=>?_;refine aA fun r6 r7=>?_;refine aA fun G7 r8=>?_;refine aA fun o r9=>?_;obtain⟨s0,s1,s2,s3,s4,s5,s6,s7,s8,s9⟩:=o;obtain rfl:=aH r9;refine aA fun o t0=>?_;obtain⟨t1,t2,t3,t4,t5,t6,t7,t8,t9,u0,u1⟩:=o;refine aA fun u2 u3=>?_;refine aA fun u4 u5=>?_;refine aA fun G8 u6=>?_;refine aA fun o u7=>?_;obtain⟨u9,v0,v1,v2,v3,v4,v5,v6,v7,v8⟩:=o;obtain rfl:=aH u7;intro h;obtain rfl:=cB h;exact aL (hs:=[.bM c d,.run 1,.val e,.call (.func (.func 64) [] [f]) g,.val a,.val a,.val i,.val j,.val a,.val a,.val k,.val (.int .i64 l),.val m,.val (eZ p q s),.run 1,.bM AV.undef t,.aJ,.val u,.call (.bool false) b,.run 1,.aJ,.val w,.call (.bool false) x,.run 1,.aJ,.val y,.call (.bool false) z,.run 1,.aJ,.val A,.call (.bool true) B,.run 1,.aJ,.run 3,.bM AV.undef q3,.val q5,.run 1,.call q8 q9,.run 1,.bM AV.undef r0,.val r2,.run 1,.bM AV.undef r4,.val r6,.val (aN s0 s1 s2 s3 s4 s5 s6 s7 s8 s9),.call (aN t1 t2 t3 t4 t5 t6 t7 t8 t9 u0) u1,.bM AV.undef u2,.call (.tuple []) u4,.val (aN u9 v0 v1 v2 v3 v4 v5 v6 v7 v8)]) (by kernel_rfl) (aK u6<|aK (dT (n+4) (hR.mono (by omega)) u5)<|aK (aP u3)<|aK (bX (n+3) t0)<|aK r8<|aK r7<|aK (aP r5)<|aK r3<|aK (aP r1)<|aK (mP n (hR.mono (by omega)) q7)<|aK q6<|aK (aP q4) q9025) (by kernel_rfl) (by kernel_rfl)
    ·obtain rfl:=bF H;refine aA fun G9 V=>?_;refine aA fun I v9=>?_;obtain rfl:=cA v9;refine bD (fun J=>?_) (fun J=>?_)
     ·refine aA fun v C=>?_;refine aA fun _o w0=>?_;refine aA fun W w1=>?_;refine aA fun H0 w2=>?_;refine aA fun X w3=>?_;obtain rfl:=cA w3;have q9026:=aK w2<|aK w1<|aK (cC w0)<|aK C<|aK (gA J)<|aK V q9025
      refine bD (fun K=>?_) (fun K=>?_)
      ·refine aA fun o w4=>?_;obtain⟨w5,w6⟩:=o;refine aA fun H1 w7=>?_;refine bD (fun Y=>?_) (fun Y=>?_)
       ·refine aA fun o w8=>?_;obtain⟨w9,x0,x1,x2,x3,x4,x5,x6,x7,x8,x9⟩:=o;refine aA fun y0 y1=>?_;refine aA fun y2 y3=>?_;refine aA fun H2 y4=>?_;refine aA fun o y5=>?_;obtain⟨y6,y7,y8,y9,z0,z1,z2,z3,z4,z5⟩:=o;obtain rfl:=aH y5;intro h;obtain rfl:=cB h;exact aL (hs:=[.bM c d,.run 1,.val e,.call (.func (.func 64) [] [f]) g,.val a,.val a,.val i,.val j,.val a,.val a,.val k,.val (.int .i64 l),.val m,.val (eZ p q s),.run 1,.bM AV.undef t,.aJ,.val u,.call (.bool false) b,.run 1,.aJ,.val w,.call (.bool false) x,.run 1,.aJ,.val y,.call (.bool false) z,.run 1,.aJ,.val A,.call (.bool false) B,.run 1,.aJ,.run 1,.val (.int .i64 I),.dec true,.run 1,.val v,.val v,.val W,.val (.int .i64 X),.dec true,.run 2,.aJ,.val v,.val v,.call (.str w5) w6,.run 1,.call (aN w9 x0 x1 x2 x3 x4 x5 x6 x7 x8) x9,.bM AV.undef y0,.call (.tuple []) y2,.val (aN y6 y7 y8 y9 z0 z1 z2 z3 z4 z5)]) (by kernel_rfl) (aK y4<|aK (dT (n+4) (hR.mono (by omega)) y3)<|aK (aP y1)<|aK (bX (n+3) w8)<|aK (jE w7 Y)<|aK (j0 (n+2) w4)<|aK C<|aK C<|aK (gA K) q9026) (by kernel_rfl) (by kernel_rfl)
       ·exact fun h=>nomatch h
      ·refine aA fun o z6=>?_;obtain⟨z7,z8,z9,A0,A1,A2,A3,A4,A5,A6,A7⟩:=o;refine aA fun A8 A9=>?_;refine aA fun B0 B1=>?_;refine aA fun H3 B2=>?_;refine aA fun o B3=>?_;obtain⟨B4,B5,B6,B7,B8,B9,C1,C2,C3,C4⟩:=o;obtain rfl:=aH B3;intro h;obtain rfl:=cB h;exact aL (hs:=[.bM c d,.run 1,.val e,.call (.func (.func 64) [] [f]) g,.val a,.val a,.val i,.val j,.val a,.val a,.val k,.val (.int .i64 l),.val m,.val (eZ p q s),.run 1,.bM AV.undef t,.aJ,.val u,.call (.bool false) b,.run 1,.aJ,.val w,.call (.bool false) x,.run 1,.aJ,.val y,.call (.bool false) z,.run 1,.aJ,.val A,.call (.bool false) B,.run 1,.aJ,.run 1,.val (.int .i64 I),.dec true,.run 1,.val v,.val v,.val W,.val (.int .i64 X),.dec false,.run 2,.aJ,.val v,.call (aN z7 z8 z9 A0 A1 A2 A3 A4 A5 A6) A7,.bM AV.undef A8,.call (.tuple []) B0,.val (aN B4 B5 B6 B7 B8 B9 C1 C2 C3 C4)]) (by kernel_rfl) (aK B2<|aK (dT (n+4) (hR.mono (by omega)) B1)<|aK (aP A9)<|aK (oY (n+2) z6)<|aK C<|aK (eW K) q9026) (by kernel_rfl) (by kernel_rfl)
     ·refine aA fun C5 C6=>?_;refine aA fun o C7=>?_;obtain⟨C8,C9,D0,D1,D2,D3,D4,D5,D6,D7,D8⟩:=o;refine aA fun D9 E0=>?_;refine aA fun E1 E2=>?_;refine aA fun H4 E3=>?_;refine aA fun o E4=>?_;obtain⟨E5,E6,E7,E8,E9,F0,F1,F2,F3,F4⟩:=o;obtain rfl:=aH E4;intro h;obtain rfl:=cB h;exact aL (hs:=[.bM c d,.run 1,.val e,.call (.func (.func 64) [] [f]) g,.val a,.val a,.val i,.val j,.val a,.val a,.val k,.val (.int .i64 l),.val m,.val (eZ p q s),.run 1,.bM AV.undef t,.aJ,.val u,.call (.bool false) b,.run 1,.aJ,.val w,.call (.bool false) x,.run 1,.aJ,.val y,.call (.bool false) z,.run 1,.aJ,.val A,.call (.bool false) B,.run 1,.aJ,.run 1,.val (.int .i64 I),.dec false,.run 3,.aJ,.val C5,.call (aN C8 C9 D0 D1 D2 D3 D4 D5 D6 D7) D8,.bM AV.undef D9,.call (.tuple []) E1,.val (aN E5 E6 E7 E8 E9 F0 F1 F2 F3 F4)]) (by kernel_rfl) (aK E3<|aK (dT (n+4) (hR.mono (by omega)) E2)<|aK (aP E0)<|aK (oY (n+2) C7)<|aK C6<|aK (eW J)<|aK V q9025) (by kernel_rfl) (by kernel_rfl)
noncomputable def Ii (R:Nat):Nat→gO
 | 0=>⟨R,(fun _ _ _=>none),(fun _ _=>none),(fun _ _=>none)⟩
 | k+1=>⟨R,(fun a0 a1 st=>dR (Ii R k) a0 a1 st),(fun a0 st=>lK (Ii R k) a0 st),(fun a0 st=>kC (Ii R k) a0 st)⟩
theorem AO (R:Nat):∀ k,(Ii R k).n=R
 | 0=>rfl
 | _+1=>rfl
theorem De (R:Nat):∀ k n,6 * k≤n→(Ii R k).ok n
 | 0,n,_=>⟨(fun _ _ _ _ _ _ h=>nomatch h),(fun _ _ _ _ _ h=>nomatch h),(fun _ _ _ _ _ h=>nomatch h)⟩
 | k + 1, n, hn => ⟨
   fun m hm a0 a1 st r h=>by
    obtain⟨j,rfl⟩:∃ j,m=j+3:=⟨m - 3,by omega⟩
    have:=fU j (De R k j (by omega)) h
    rw[AO] at this
    exact this,
   fun m hm a0 st r h=>by
    obtain⟨j,rfl⟩:∃ j,m=j+4:=⟨m - 4,by omega⟩
    have:=zW j (De R k j (by omega)) h
    rw[AO] at this
    exact this,
   fun m hm a0 st r h=>by
    obtain⟨j,rfl⟩:∃ j,m=j+6:=⟨m - 6,by omega⟩
    have:=xS j (De R k j (by omega)) h
    rw[AO] at this
    exact this⟩
noncomputable def fJ (R:Nat)(a0:AV)(a1:Int)(st:St):Option (Int×List UInt8×Int×Bool×Int×List UInt8×AV×AV×AV×AV×St):=dR (Ii R 4000) a0 a1 st
theorem eL {R:Nat}(n:Nat){a0:AV}{a1:Int}{st:St}{r:Int×List UInt8×Int×Bool×Int×List UInt8×AV×AV×AV×AV×St}(h:fJ R a0 a1 st=some r):b7 (aR C0 cK R (n+24003)) false 26 [a0,(.int .i64 a1)] st (.agg [.int .i64 r.1,.str r.2.1,.int .i64 r.2.2.1,.bool r.2.2.2.1,.int .i64 r.2.2.2.2.1,.str r.2.2.2.2.2.1,r.2.2.2.2.2.2.1,r.2.2.2.2.2.2.2.1,r.2.2.2.2.2.2.2.2.1,r.2.2.2.2.2.2.2.2.2.1]) r.2.2.2.2.2.2.2.2.2.2:=by
 have:=fU (n+24000) (De R 4000 _ (by omega)) h
 rw[AO] at this
 exact this
noncomputable def gP (R:Nat)(b:AV)(a:St):Option (Int×List UInt8×Int×Bool×Int×List UInt8×AV×AV×AV×AV×St):=
 (bK R b [87,72,69,82,69] (St.push a (.cells 32 true [(.int .i64 0),(.str []),(.int .i64 0),(.bool false),(.int .i64 0),(.str []),AV.aB,AV.aB,AV.aB,AV.aB]))).bind fun(f,c)=>
 if f=true then
  (fJ R b 0 c).bind fun(g,h,i,j,k,l,m,n,o,p,q)=>
  (storeAt C0.P q 32 (.ref (St.next a) 0) (.agg [(.int .i64 g),(.str h),(.int .i64 i),(.bool j),(.int .i64 k),(.str l),m,n,o,p])).bind fun d=>
  (loadAt C0.P d 32 (.ref (St.next a) 0)).bind fun r=>
  (aI r).bind fun(s,t,u,v,w,x,y,z,A,B)=>
  some (s,t,u,v,w,x,y,z,A,B,d)
 else
  (storeAt C0.P c 32 (.ref (St.next a) 0) (.agg [(.int .i64 0),(.str []),(.int .i64 0),(.bool false),(.int .i64 0),(.str []),AV.aB,AV.aB,AV.aB,AV.aB])).bind fun e=>
  (loadAt C0.P e 32 (.ref (St.next a) 0)).bind fun C=>
  (aI C).bind fun(D,E,F,G,H,I,J,K,L,M)=>
  some (D,E,F,G,H,I,J,K,L,M,e)
theorem mS {R:Nat}(n:Nat){b:AV}{c:St}{r:Int×List UInt8×Int×Bool×Int×List UInt8×AV×AV×AV×AV×St}(h:gP R b c=some r):
 b7 (aR C0 cK R (n+24004)) false 28 [b] c (.agg [.int .i64 r.1,.str r.2.1,.int .i64 r.2.2.1,.bool r.2.2.2.1,.int .i64 r.2.2.2.2.1,.str r.2.2.2.2.2.1,r.2.2.2.2.2.2.1,r.2.2.2.2.2.2.2.1,r.2.2.2.2.2.2.2.2.1,r.2.2.2.2.2.2.2.2.2.1]) r.2.2.2.2.2.2.2.2.2.2:=by
 revert h;unfold gP;refine aA fun o e=>?_;obtain⟨Y,d⟩:=o;have q9027:=aK (bA (n+24001) e) gD
 refine bD (fun a=>?_) (fun a=>?_)
 ·subst a;refine aA fun o f=>?_;obtain⟨g,i,j,k,l,m,p,q,s,t,u⟩:=o;refine aA fun v w=>?_;refine aA fun Z x=>?_;refine aA fun o y=>?_;obtain⟨z,A,B,C,D,E,F,G,H,I⟩:=o;obtain rfl:=aH y;intro h;obtain rfl:=cB h;exact aL (hs:=[.run 2,.call (.bool true) d,.run 1,.aJ,.run 1,.call (aN g i j k l m p q s t) u,.bM AV.undef v,.val (aN z A B C D E F G H I)]) (by kernel_rfl) (aK x<|aK (aP w)<|aK (eL n f) q9027) (by kernel_rfl) (by kernel_rfl)
 ·obtain rfl:=bF a;refine aA fun J K=>?_;refine aA fun a0 L=>?_;refine aA fun o M=>?_;obtain⟨N,O,P,Q,S,T,U,V,W,X⟩:=o;obtain rfl:=aH M;intro h;obtain rfl:=cB h;exact aL (hs:=[.run 2,.call (.bool false) d,.run 1,.aJ,.run 1,.bM AV.undef J,.val (aN N O P Q S T U V W X)]) (by kernel_rfl) (aK L<|aK (aP K) q9027) (by kernel_rfl) (by kernel_rfl)
noncomputable def kD (R:Nat)(a:AV)(b:St):Option (Int×St):=
 (aZ a).bind fun _=>
 (shift a 0).bind fun f=>
 (loadAt C0.P b 40 f).bind fun g=>
 (aZ a).bind fun _=>
 (shift a 1).bind fun d=>
 (loadAt C0.P b 3 d).bind fun h=>
 (eP .i64 h).bind fun i=>
 (cV C0.P 40 g (.int .i64 i)).bind fun j=>
 (loadAt C0.P b 26 j).bind fun k=>
 (cD k).bind fun(l,m,n)=>
 (storeAt C0.P (St.push b (.cells 26 true [(.int .i64 0),(.str []),(.int .i64 0)])) 26 (.ref (St.next b) 0) (.agg [(.int .i64 l),(.str m),(.int .i64 n)])).bind fun e=>
 (loadAt C0.P e 9 (.ref (St.next b) 1)).bind fun o=>
 (iZ o).bind fun p=>
 (Ny R p e).bind fun(q,r,c)=>
 (aZ a).bind fun _=>
 (shift a 5).bind fun s=>
 (loadAt C0.P c 35 s).bind fun t=>
 (eP .i64 t).bind fun u=>
 if (u = 0) then
  (loadAt C0.P c 3 (.ref (St.next b) 0)).bind fun v=>
  (eP .i64 v).bind fun w=>
  if(w=3) then
   ((yS C0.P .neq 82 (.tmp 0) (.const .nilIface) r AV.tV).bind rO).bind fun x=>
   if x=true then
    (bJ R a 120 c).bind fun y=>
    some ((-1),y)
   else
    (aZ a).bind fun _=>
    (loadAt C0.P c 3 d).bind fun z=>
    (eP .i64 z).bind fun A=>
    (aZ a).bind fun _=>
    (storeAt C0.P c 3 d (.int .i64 (IntKind.wrap .i64 (A+1)))).bind fun B=>
    some (q,B)
  else
   (bJ R a 120 c).bind fun C=>
   some ((-1),C)
 else
  (bJ R a 120 c).bind fun D=>
  some ((-1),D)
theorem xM {R : Nat} (n : Nat) {a : AV} {z : St} {r : Int × St} (h : kD R a z = some r):
 b7 (aR C0 cK R (n+2)) false 44 [a] z (.int .i64 r.1) r.2:=by
 revert h;unfold kD;refine aA fun _o B=>?_;refine aA fun c C=>?_;refine aA fun d D=>?_;refine aA fun _o E=>?_;refine aA fun b v=>?_;refine aA fun a8 F=>?_;refine aA fun e G=>?_;obtain rfl:=cA G;refine aA fun f H=>?_;refine aA fun a9 I=>?_;refine aA fun o J=>?_;obtain⟨g,i,j⟩:=o;obtain rfl:=bT J;refine aA fun k K=>?_;refine aA fun b0 L=>?_;refine aA fun l M=>?_;obtain rfl:=dY M;refine aA fun o N=>?_;obtain⟨m,p,q⟩:=o;refine aA fun _o O=>?_;refine aA fun s P=>?_;refine aA fun b1 Q=>?_;refine aA fun t S=>?_;obtain rfl:=cA S;have q9028:=aK Q<|aK P<|aK (cC O)<|aK (OO n N)<|aK L<|aK (aP K)<|aK I<|aK H<|aK F<|aK v<|aK (cC E)<|aK D<|aK C<|aK (cC B) gD
 refine bD (fun u=>?_) (fun u=>?_)
 ·refine aA fun b2 A=>?_;refine aA fun w T=>?_;obtain rfl:=cA T;refine bD (fun x=>?_) (fun x=>?_)
  ·refine aA fun b3 U=>?_;have q9029:=aK (Mm U)<|aK (vR x)<|aK A<|aK (vR u) q9028
   refine bD (fun y=>?_) (fun y=>?_)
   ·subst y;refine aA fun V W=>?_;intro h;obtain rfl:=cB h;exact aL (hs:=[.run 2,.val a,.val c,.val d,.run 1,.val a,.val b,.val (.int .i64 e),.val f,.val (eZ g i j),.run 1,.bM AV.undef k,.run 1,.val (.str l),.call (.tuple [(.int .i64 m),p]) q,.run 6,.val a,.val s,.val (.int .i64 t),.dec false,.run 2,.val (.int .i64 w),.dec false,.run 3,.val (.bool true),.run 1,.aJ,.run 1,.call (.tuple []) V,.run 1]) (by kernel_rfl) (aK (bO n W) q9029) (by kernel_rfl) (by kernel_rfl)
   ·obtain rfl:=bF y;refine aA fun _o X=>?_;refine aA fun b4 Y=>?_;refine aA fun Z a0=>?_;obtain rfl:=cA a0;refine aA fun _o a1=>?_;refine aA fun a2 a3=>?_;intro h;obtain rfl:=cB h;exact aL (hs:=[.run 2,.val a,.val c,.val d,.run 1,.val a,.val b,.val (.int .i64 e),.val f,.val (eZ g i j),.run 1,.bM AV.undef k,.run 1,.val (.str l),.call (.tuple [(.int .i64 m),p]) q,.run 6,.val a,.val s,.val (.int .i64 t),.dec false,.run 2,.val (.int .i64 w),.dec false,.run 3,.val (.bool false),.run 1,.aJ,.run 1,.val a,.val b,.val (.int .i64 Z),.run 1,.val a,.val b,.bM AV.undef a2,.run 2]) (by kernel_rfl) (aK (aP a3)<|aK v<|aK (cC a1)<|aK Y<|aK v<|aK (cC X) q9029) (by kernel_rfl) (by kernel_rfl)
  ·refine aA fun a4 a5=>?_;intro h;obtain rfl:=cB h;exact aL (hs:=[.run 2,.val a,.val c,.val d,.run 1,.val a,.val b,.val (.int .i64 e),.val f,.val (eZ g i j),.run 1,.bM AV.undef k,.run 1,.val (.str l),.call (.tuple [(.int .i64 m),p]) q,.run 6,.val a,.val s,.val (.int .i64 t),.dec false,.run 2,.val (.int .i64 w),.dec true,.run 3,.aJ,.run 1,.call (.tuple []) a4,.run 1]) (by kernel_rfl) (aK (bO n a5)<|aK (B7 x)<|aK A<|aK (vR u) q9028) (by kernel_rfl) (by kernel_rfl)
 ·refine aA fun a6 a7=>?_;intro h;obtain rfl:=cB h;exact aL (hs:=[.run 2,.val a,.val c,.val d,.run 1,.val a,.val b,.val (.int .i64 e),.val f,.val (eZ g i j),.run 1,.bM AV.undef k,.run 1,.val (.str l),.call (.tuple [(.int .i64 m),p]) q,.run 6,.val a,.val s,.val (.int .i64 t),.dec true,.run 4,.aJ,.run 1,.call (.tuple []) a6,.run 1]) (by kernel_rfl) (aK (bO n a7)<|aK (B7 u) q9028) (by kernel_rfl) (by kernel_rfl)
noncomputable def b9 (R:Nat)(b:AV)(c:AV)(d:List UInt8)(e:St):Option (St):=
 (bK R c d e).bind fun(f,a)=>
 if f=true then
  some a
 else
  (bJ R b 120 a).bind fun g=>
  some g
theorem bP {R:Nat}(n:Nat){b:AV}{c:AV}{d:List UInt8}{e:St}{r:St}(h:b9 R b c d e=some r):
 b7 (aR C0 cK R (n+3)) false 24 [b,(.func (.func 22) [c] []),(.str d)] e (.tuple []) r:=by
 revert h;unfold b9;refine aA fun o f=>?_;obtain⟨k,g⟩:=o;refine bD (fun a=>?_) (fun a=>?_)
 ·subst a;intro h;obtain rfl:=cB h;exact aL (hs:=[.run 2,.call (.bool true) g,.run 1,.aJ]) (by kernel_rfl) (aK (bA n f) gD) (by kernel_rfl) (by kernel_rfl)
 ·obtain rfl:=bF a;refine aA fun i j=>?_;intro h;obtain rfl:=cB h;exact aL (hs:=[.run 2,.call (.bool false) g,.run 1,.aJ,.run 1,.call (.tuple []) i]) (by kernel_rfl) (aK (bO (n+1) j)<|aK (bA n f) gD) (by kernel_rfl) (by kernel_rfl)
noncomputable def bE (R:Nat)(b:AV)(c:AV)(d:List UInt8)(e:St):Option (St):=
 (cI R c d e).bind fun(f,a)=>
 if f=true then
  some a
 else
  (bJ R b 120 a).bind fun g=>
  some g
theorem bL {R:Nat}(n:Nat){b:AV}{c:AV}{d:List UInt8}{e:St}{r:St}(h:bE R b c d e=some r):
 b7 (aR C0 cK R (n+3)) false 24 [b,(.func (.func 39) [c] []),(.str d)] e (.tuple []) r:=by
 revert h;unfold bE;refine aA fun o f=>?_;obtain⟨k,g⟩:=o;refine bD (fun a=>?_) (fun a=>?_)
 ·subst a;intro h;obtain rfl:=cB h;exact aL (hs:=[.run 2,.call (.bool true) g,.run 1,.aJ]) (by kernel_rfl) (aK (aY n f) gD) (by kernel_rfl) (by kernel_rfl)
 ·obtain rfl:=bF a;refine aA fun i j=>?_;intro h;obtain rfl:=cB h;exact aL (hs:=[.run 2,.call (.bool false) g,.run 1,.aJ,.run 1,.call (.tuple []) i]) (by kernel_rfl) (aK (bO (n+1) j)<|aK (aY n f) gD) (by kernel_rfl) (by kernel_rfl)
noncomputable def jN (R:Nat)(a:AV)(b:St):Option (Int×List UInt8×List UInt8×Int×List UInt8×Int×Bool×Int×List UInt8×AV×AV×AV×AV×AV×AV×Int×List UInt8×Int×Bool×Int×List UInt8×AV×AV×AV×AV×AV×Bool×Bool×List UInt8×Bool×Int×St):=
 (bK R a [84,65,66,76,69] (St.push b (.cells 34 true [(.int .i64 0),(.str []),(.str []),(.int .i64 0),(.str []),(.int .i64 0),(.bool false),(.int .i64 0),(.str []),AV.aB,AV.aB,AV.aB,AV.aB,AV.aB,AV.aB,(.int .i64 0),(.str []),(.int .i64 0),(.bool false),(.int .i64 0),(.str []),AV.aB,AV.aB,AV.aB,AV.aB,AV.aB,(.bool false),(.bool false),(.str []),(.bool false),(.int .i64 0)]))).bind fun(h,d)=>
 if h=true then
  (cE R a d).bind fun(i,j)=>
  (storeAt C0.P j 34 (.ref (St.next b) 0) (.agg [(.int .i64 1),(.str i),(.str []),(.int .i64 0),(.str []),(.int .i64 0),(.bool false),(.int .i64 0),(.str []),AV.aB,AV.aB,AV.aB,AV.aB,AV.aB,AV.aB,(.int .i64 0),(.str []),(.int .i64 0),(.bool false),(.int .i64 0),(.str []),AV.aB,AV.aB,AV.aB,AV.aB,AV.aB,(.bool false),(.bool false),(.str []),(.bool false),(.int .i64 (-1))])).bind fun e=>
  (loadAt C0.P e 34 (.ref (St.next b) 0)).bind fun k=>
  (aD k).bind fun(l,m,n,o,p,q,r,s,t,u,v,w,x,y,z,A,B,C,D,E,F,G,H,I,J,K,L,M,N,O,Q)=>
  some (l,m,n,o,p,q,r,s,t,u,v,w,x,y,z,A,B,C,D,E,F,G,H,I,J,K,L,M,N,O,Q,e)
 else
  (b9 R a a [73,78,68,69,88] d).bind fun S=>
  (b9 R a a [79,78] S).bind fun T=>
  (cE R a T).bind fun(U,c)=>
  (storeAt C0.P (St.push c (.cells 34 true [(.int .i64 0),(.str []),(.str []),(.int .i64 0),(.str []),(.int .i64 0),(.bool false),(.int .i64 0),(.str []),AV.aB,AV.aB,AV.aB,AV.aB,AV.aB,AV.aB,(.int .i64 0),(.str []),(.int .i64 0),(.bool false),(.int .i64 0),(.str []),AV.aB,AV.aB,AV.aB,AV.aB,AV.aB,(.bool false),(.bool false),(.str []),(.bool false),(.int .i64 0)])) 34 (.ref (St.next c) 0) (.agg [(.int .i64 2),(.str U),(.str []),(.int .i64 0),(.str []),(.int .i64 0),(.bool false),(.int .i64 0),(.str []),AV.aB,AV.aB,AV.aB,AV.aB,AV.aB,AV.aB,(.int .i64 0),(.str []),(.int .i64 0),(.bool false),(.int .i64 0),(.str []),AV.aB,AV.aB,AV.aB,AV.aB,AV.aB,(.bool false),(.bool false),(.str []),(.bool false),(.int .i64 (-1))])).bind fun V=>
  (bE R a a [40] V).bind fun W=>
  (cE R a W).bind fun(X,Y)=>
  (storeAt C0.P Y 9 (.ref (St.next c) 2) (.str X)).bind fun Z=>
  (bE R a a [41] Z).bind fun f=>
  (loadAt C0.P f 34 (.ref (St.next c) 0)).bind fun a0=>
  (aD a0).bind fun(a1,a2,a3,a4,a5,a6,a7,a8,a9,b0,b1,b2,b3,b4,b5,b6,b7,b8,c0,c1,c2,c3,c4,c5,c6,c7,c8,c9,d0,d1,d2)=>
  (storeAt C0.P f 34 (.ref (St.next b) 0) (.agg [(.int .i64 a1),(.str a2),(.str a3),(.int .i64 a4),(.str a5),(.int .i64 a6),(.bool a7),(.int .i64 a8),(.str a9),b0,b1,b2,b3,b4,b5,(.int .i64 b6),(.str b7),(.int .i64 b8),(.bool c0),(.int .i64 c1),(.str c2),c3,c4,c5,c6,c7,(.bool c8),(.bool c9),(.str d0),(.bool d1),(.int .i64 d2)])).bind fun g=>
  (loadAt C0.P g 34 (.ref (St.next b) 0)).bind fun d3=>
  (aD d3).bind fun(d4,d5,d6,d7,d8,d9,e0,e1,e2,e3,e4,e5,e6,e7,e8,e9,f0,f1,f2,f3,f4,f5,f6,f7,f8,f9,g0,g1,g2,g3,g4)=>
  some (d4,d5,d6,d7,d8,d9,e0,e1,e2,e3,e4,e5,e6,e7,e8,e9,f0,f1,f2,f3,f4,f5,f6,f7,f8,f9,g0,g1,g2,g3,g4,g)
theorem xB {R:Nat}(n:Nat){b:AV}{c:St}{r:Int×List UInt8×List UInt8×Int×List UInt8×Int×Bool×Int×List UInt8×AV×AV×AV×AV×AV×AV×Int×List UInt8×Int×Bool×Int×List UInt8×AV×AV×AV×AV×AV×Bool×Bool×List UInt8×Bool×Int×St}(h:jN R b c=some r):
 b7 (aR C0 cK R (n+4)) false 23 [b] c (.agg [.int .i64 r.1,.str r.2.1,.str r.2.2.1,.int .i64 r.2.2.2.1,.str r.2.2.2.2.1,.int .i64 r.2.2.2.2.2.1,.bool r.2.2.2.2.2.2.1,.int .i64 r.2.2.2.2.2.2.2.1,.str r.2.2.2.2.2.2.2.2.1,r.2.2.2.2.2.2.2.2.2.1,r.2.2.2.2.2.2.2.2.2.2.1,r.2.2.2.2.2.2.2.2.2.2.2.1,r.2.2.2.2.2.2.2.2.2.2.2.2.1,r.2.2.2.2.2.2.2.2.2.2.2.2.2.1,r.2.2.2.2.2.2.2.2.2.2.2.2.2.2.1,.int .i64 r.2.2.2.2.2.2.2.2.2.2.2.2.2.2.2.1,.str r.2.2.2.2.2.2.2.2.2.2.2.2.2.2.2.2.1,.int .i64 r.2.2.2.2.2.2.2.2.2.2.2.2.2.2.2.2.2.1,.bool r.2.2.2.2.2.2.2.2.2.2.2.2.2.2.2.2.2.2.1,.int .i64 r.2.2.2.2.2.2.2.2.2.2.2.2.2.2.2.2.2.2.2.1,.str r.2.2.2.2.2.2.2.2.2.2.2.2.2.2.2.2.2.2.2.2.1,r.2.2.2.2.2.2.2.2.2.2.2.2.2.2.2.2.2.2.2.2.2.1,r.2.2.2.2.2.2.2.2.2.2.2.2.2.2.2.2.2.2.2.2.2.2.1,r.2.2.2.2.2.2.2.2.2.2.2.2.2.2.2.2.2.2.2.2.2.2.2.1,r.2.2.2.2.2.2.2.2.2.2.2.2.2.2.2.2.2.2.2.2.2.2.2.2.1,r.2.2.2.2.2.2.2.2.2.2.2.2.2.2.2.2.2.2.2.2.2.2.2.2.2.1,.bool r.2.2.2.2.2.2.2.2.2.2.2.2.2.2.2.2.2.2.2.2.2.2.2.2.2.2.1,.bool r.2.2.2.2.2.2.2.2.2.2.2.2.2.2.2.2.2.2.2.2.2.2.2.2.2.2.2.1,.str r.2.2.2.2.2.2.2.2.2.2.2.2.2.2.2.2.2.2.2.2.2.2.2.2.2.2.2.2.1,.bool r.2.2.2.2.2.2.2.2.2.2.2.2.2.2.2.2.2.2.2.2.2.2.2.2.2.2.2.2.2.1,.int .i64 r.2.2.2.2.2.2.2.2.2.2.2.2.2.2.2.2.2.2.2.2.2.2.2.2.2.2.2.2.2.2.1]) r.2.2.2.2.2.2.2.2.2.2.2.2.2.2.2.2.2.2.2.2.2.2.2.2.2.2.2.2.2.2.2:=by
 revert h;unfold jN;refine aA fun o d=>?_;obtain⟨i3,e⟩:=o;refine bD (fun a=>?_) (fun a=>?_)
 ·subst a;refine aA fun o f=>?_;obtain⟨g,i⟩:=o;refine aA fun j k=>?_;refine aA fun i4 l=>?_;refine aA fun o m=>?_;obtain⟨p,q,s,t,u,v,w,x,y,z,A,B,C,D,E,F,G,H,I,J,K,L,M,N,O,P,Q,S,T,U,V⟩:=o;obtain rfl:=aF m;intro h;obtain rfl:=cB h;exact aL (hs:=[.run 2,.call (.bool true) e,.aJ,.run 1,.call (.str g) i,.run 1,.bM AV.undef j,.val (aG p q s t u v w x y z A B C D E F G H I J K L M N O P Q S T U V)]) (by kernel_rfl) (aK l<|aK (aP k)<|aK (cG (n+1) f)<|aK (bA (n+1) d) gD) (by kernel_rfl) (by kernel_rfl)
 ·obtain rfl:=bF a;refine aA fun W X=>?_;refine aA fun Y Z=>?_;refine aA fun o a0=>?_;obtain⟨a1,a2⟩:=o;refine aA fun a3 a4=>?_;refine aA fun a5 a6=>?_;refine aA fun o a7=>?_;obtain⟨a8,a9⟩:=o;refine aA fun b0 b1=>?_;refine aA fun b2 b3=>?_;refine aA fun i5 b4=>?_;refine aA fun o b5=>?_;obtain⟨b6,b8,b9,c0,c1,c2,c3,c4,c5,c6,c7,c8,c9,d0,d1,d2,d3,d4,d5,d6,d7,d8,d9,e0,e1,e2,e3,e4,e5,e6,e7⟩:=o;obtain rfl:=aF b5;refine aA fun e8 e9=>?_;refine aA fun i6 f0=>?_;refine aA fun o f1=>?_;obtain⟨f2,f3,f4,f5,f6,f7,f8,f9,g0,g1,g2,g3,g4,g5,g6,g7,g8,g9,h0,h1,h2,h3,h4,h5,h6,h7,h8,h9,i0,i1,i2⟩:=o;obtain rfl:=aF f1
  intro h;obtain rfl:=cB h;exact aL (hs:=[.run 2,.call (.bool false) e,.aJ,.run 3,.call (.tuple []) W,.run 3,.call (.tuple []) Y,.run 1,.call (.str a1) a2,.run 2,.bM AV.undef a3,.run 3,.call (.tuple []) a5,.run 1,.call (.str a8) a9,.run 1,.bM AV.undef b0,.run 3,.call (.tuple []) b2,.val (aG b6 b8 b9 c0 c1 c2 c3 c4 c5 c6 c7 c8 c9 d0 d1 d2 d3 d4 d5 d6 d7 d8 d9 e0 e1 e2 e3 e4 e5 e6 e7),.bM AV.undef e8,.val (aG f2 f3 f4 f5 f6 f7 f8 f9 g0 g1 g2 g3 g4 g5 g6 g7 g8 g9 h0 h1 h2 h3 h4 h5 h6 h7 h8 h9 i0 i1 i2)]) (by kernel_rfl) (aK f0<|aK (aP e9)<|aK b4<|aK (bL n b3)<|aK (aP b1)<|aK (cG (n+1) a7)<|aK (bL n a6)<|aK (aP a4)<|aK (cG (n+1) a0)<|aK (bP n Z)<|aK (bP n X)<|aK (bA (n+1) d) gD) (by kernel_rfl) (by kernel_rfl)
noncomputable def fS (R:Nat)(a:AV)(d:Nat)(e:Nat)(b:St):Option (St):=
 (bJ R a 3 b).bind fun c=>
 some c
theorem kR {R:Nat}(n:Nat){a:AV}{b:Nat}{c:Nat}{d:St}{r:St}(h:fS R a b c d=some r):
 cM 47 (bN C0 (aR C0 cK R (n+24004)) 27 R none (aQ C0.P 27 [1,1,1,0,0,0,1,0,0,1])) (bG (aQ C0.P 27 [1,1,1,0,0,0,1,0,0,1])) [(0,a),(2,(.ref b 0)),(3,(.ref c 0)),(19,(.bool true))] d .normal [] r:=by
 revert h;unfold fS;refine aA fun e f=>?_;intro h;obtain rfl:=cB h;exact aO (hs:=[.aJ,.run 1,.call (.tuple []) e]) (want:=[]) (by kernel_rfl) (aK (bO (n+24003) f) gD)
noncomputable def fB (R:Nat)(a:AV)(b:Nat)(c:Nat):Option (Unit):=
 some ()
theorem kB {R:Nat}(n:Nat){a:AV}{b:Nat}{c:Nat}(d:St){r:Unit}(h:fB R a b c=some r):
 cM 47 (bN C0 (aR C0 cK R (n+24004)) 27 R none (aQ C0.P 27 [1,1,1,0,0,0,1,0,0,1])) (bG (aQ C0.P 27 [1,1,1,0,0,0,1,0,0,1])) [(0,a),(2,(.ref b 0)),(3,(.ref c 0)),(19,(.bool false))] d .normal [] d:=by
 revert h;unfold fB;intro h;obtain rfl:=cB h;exact aO (hs:=[.aJ]) (want:=[]) (by kernel_rfl) .nil
noncomputable def dS (R:Nat)(a:AV)(d:Nat)(b:Nat):Nat→St→Option ((St))
 | 0,_=>none
 | r + 1, c =>
   (aZ a).bind fun _=>
   (shift a 5).bind fun s=>
   (loadAt C0.P c 35 s).bind fun t=>
   (eP .i64 t).bind fun u=>
   if (u = 0) then
    (loadAt C0.P c 22 (.ref b 13)).bind fun e=>
    (lenOf e).bind fun n3030=>
    if ((n3030 : Int) ≥ 32) then
     (fS R a d b c).bind fun f=>
     (loadAt C0.P f 22 (.ref b 13)).bind fun g=>
     (cE R a f).bind fun(v,h)=>
     (loadAt C0.P h 22 (.ref b 13)).bind fun w=>
     if AV.beq w g = true then
      (eK (aU C0.P (C0.bU 27) 22 1 [(0,(.str v))]) h).bind fun(x,y)=>
      (bW C0.P (C0.bU 27) y #[22,22] g x).bind fun(z,A)=>
      (storeAt C0.P A 22 (.ref b 13) z).bind fun B=>
      (bE R a a [61] B).bind fun i=>
      (loadAt C0.P i 30 (.ref b 14)).bind fun j=>
      (fJ R a 0 i).bind fun(C,D,E,F,G,H,I,J,K,L,k)=>
      (loadAt C0.P k 30 (.ref b 14)).bind fun M=>
      if AV.beq M j=true then
       (eK (aU C0.P (C0.bU 27) 30 1 [(0,(.agg [(.int .i64 C),(.str D),(.int .i64 E),(.bool F),(.int .i64 G),(.str H),I,J,K,L]))]) k).bind fun(N,O)=>
       (bW C0.P (C0.bU 27) O #[30,30] j N).bind fun(Q,S)=>
       (storeAt C0.P S 30 (.ref b 14) Q).bind fun T=>
       (cI R a [44] T).bind fun(U,l)=>
       if U=true then
        dS R a d b r l
       else
        some l
      else
       none
     else
      none
    else
     (fB R a d b).bind fun _=>
     (cE R a c).bind fun(V,m)=>
     (loadAt C0.P m 22 (.ref b 13)).bind fun W=>
     if AV.beq W e = true then
      (eK (aU C0.P (C0.bU 27) 22 1 [(0,(.str V))]) m).bind fun(X,Y)=>
      (bW C0.P (C0.bU 27) Y #[22,22] e X).bind fun(Z,a0)=>
      (storeAt C0.P a0 22 (.ref b 13) Z).bind fun a1=>
      (bE R a a [61] a1).bind fun n=>
      (loadAt C0.P n 30 (.ref b 14)).bind fun o=>
      (fJ R a 0 n).bind fun(a2,a3,a4,a5,a6,a7,a8,a9,b0,b1,p)=>
      (loadAt C0.P p 30 (.ref b 14)).bind fun b2=>
      if AV.beq b2 o=true then
       (eK (aU C0.P (C0.bU 27) 30 1 [(0,(.agg [(.int .i64 a2),(.str a3),(.int .i64 a4),(.bool a5),(.int .i64 a6),(.str a7),a8,a9,b0,b1]))]) p).bind fun(b3,b4)=>
       (bW C0.P (C0.bU 27) b4 #[30,30] o b3).bind fun(b5,b6)=>
       (storeAt C0.P b6 30 (.ref b 14) b5).bind fun b7=>
       (cI R a [44] b7).bind fun(b8,q)=>
       if b8=true then
        dS R a d b r q
       else
        some q
      else
       none
     else
      none
   else
    some c
noncomputable def jS (o:(St)):cZ×List (Nat×AV)×St:=match o with
 | a0=>((.exit 0),[],a0)
theorem rI (R n : Nat) (b : AV) (B : Nat) (C : Nat) : ∀ (r : Nat) (a : St) (o : (St)), dS R b B C r a = some o →
 cM 47 (lO (fun fr k=>bN C0 (aR C0 cK R (n+24004)) 27 R none (aQ C0.P 27 [1,1,1,0,0,0]) fr k) r) (bG (aQ C0.P 27 [1,1,1,0,0,0])) [(0,b),(2,(.ref B 0)),(3,(.ref C 0))] a (jS o).1 (jS o).2.1 (jS o).2.2:=by
 intro r
 induction r with
 | zero=>intro a o h; exact nomatch h
 | succ r ih =>
   intro a o
   unfold dS;refine aA fun _o g=>?_;refine aA fun i j=>?_;refine aA fun g1 l=>?_;refine aA fun m g0=>?_;obtain rfl:=cA g0;refine bD (fun c=>?_) (fun c=>?_)
   ·refine aA fun d f=>?_;refine aA fun n3030 q=>?_;refine bD (fun p=>?_) (fun p=>?_)
    ·refine aA fun D E=>?_;refine aA fun F G=>?_;refine aA fun o H=>?_;obtain⟨I,J⟩:=o;refine aA fun g2 K=>?_;refine bD (fun s=>?_) (fun s=>?_)
     ·refine aA fun o L=>?_;obtain⟨M,N⟩:=o;refine aA fun o O=>?_;obtain⟨Q,S⟩:=o;refine aA fun T U=>?_;refine aA fun V W=>?_;refine aA fun X Y=>?_;refine aA fun o Z=>?_;obtain⟨a0,a1,a2,a3,a4,a5,a6,a7,a8,a9,b0⟩:=o;refine aA fun g3 b1=>?_;refine bD (fun u=>?_) (fun u=>?_)
      ·refine aA fun o b2=>?_;obtain⟨b3,b4⟩:=o;refine aA fun o b5=>?_;obtain⟨b6,b7⟩:=o;refine aA fun b8 b9=>?_;refine aA fun o c0=>?_;obtain⟨g4,v⟩:=o;refine bD (fun w=>?_) (fun w=>?_)
       ·subst w;intro h;exact dP (aO (hs:=[.run 1,.val b,.val i,.val (.int .i64 m),.dec true,.aJ,.aJ,.run 1,.val d,.val (.int .i64 (n3030:Int)),.dec true,.eE [0,2,3,19] .normal [] D,.run 1,.val F,.run 1,.call (.str I) J,.bM M N,.bM Q S,.run 1,.bM AV.undef T,.run 3,.call (.tuple []) V,.run 1,.val X,.run 1,.call (.agg [(.int .i64 a0),(.str a1),(.int .i64 a2),(.bool a3),(.int .i64 a4),(.str a5),a6,a7,a8,a9]) b0,.bM b3 b4,.bM b6 b7,.run 1,.bM AV.undef b8,.run 1,.call (.bool true) v,.run 1,.aJ]) (want:=[0,2,3]) (by kernel_rfl) (.cons (aY (n+24002) c0)<|.cons (aP b9)<|.cons b5<|.cons b2<|.cons (jE b1 u)<|.cons (eL (n+1) Z)<|.cons Y<|.cons (bL (n+24001) W)<|.cons (aP U)<|.cons O<|.cons L<|.cons (jE K s)<|.cons (cG (n+24002) H)<|.cons G<|.cons (kR n E)<|.cons (decide_eq_true p)<|.cons (fD (P:=C0.P) (t:=22) (e:=9) (by kernel_rfl) q)<|.cons f<|.cons (gA c)<|.cons l<|.cons j<|.cons (cC g) .nil)) (ih v _ h)
       ·obtain rfl:=bF w;intro h;obtain rfl:=cB h;exact cF (aO (hs:=[.run 1,.val b,.val i,.val (.int .i64 m),.dec true,.aJ,.aJ,.run 1,.val d,.val (.int .i64 (n3030:Int)),.dec true,.eE [0,2,3,19] .normal [] D,.run 1,.val F,.run 1,.call (.str I) J,.bM M N,.bM Q S,.run 1,.bM AV.undef T,.run 3,.call (.tuple []) V,.run 1,.val X,.run 1,.call (.agg [(.int .i64 a0),(.str a1),(.int .i64 a2),(.bool a3),(.int .i64 a4),(.str a5),a6,a7,a8,a9]) b0,.bM b3 b4,.bM b6 b7,.run 1,.bM AV.undef b8,.run 1,.call (.bool false) v,.run 1,.aJ]) (want:=[]) (by kernel_rfl) (.cons (aY (n+24002) c0)<|.cons (aP b9)<|.cons b5<|.cons b2<|.cons (jE b1 u)<|.cons (eL (n+1) Z)<|.cons Y<|.cons (bL (n+24001) W)<|.cons (aP U)<|.cons O<|.cons L<|.cons (jE K s)<|.cons (cG (n+24002) H)<|.cons G<|.cons (kR n E)<|.cons (decide_eq_true p)<|.cons (fD (P:=C0.P) (t:=22) (e:=9) (by kernel_rfl) q)<|.cons f<|.cons (gA c)<|.cons l<|.cons j<|.cons (cC g) .nil)) (by kernel_rfl)
      ·exact fun h=>nomatch h
     ·exact fun h=>nomatch h
    ·refine aA fun _o c1=>?_;refine aA fun o c2=>?_;obtain⟨c3,c4⟩:=o;refine aA fun g5 c5=>?_;refine bD (fun x=>?_) (fun x=>?_)
     ·refine aA fun o c6=>?_;obtain⟨c7,c8⟩:=o;refine aA fun o c9=>?_;obtain⟨d0,d1⟩:=o;refine aA fun d2 d3=>?_;refine aA fun d4 d5=>?_;refine aA fun d6 d7=>?_;refine aA fun o d8=>?_;obtain⟨d9,e0,e1,e2,e3,e4,e5,e6,e7,e8,e9⟩:=o;refine aA fun g6 f0=>?_;refine bD (fun y=>?_) (fun y=>?_)
      ·refine aA fun o f1=>?_;obtain⟨f2,f3⟩:=o;refine aA fun o f4=>?_;obtain⟨f5,f6⟩:=o;refine aA fun f7 f8=>?_;refine aA fun o f9=>?_;obtain⟨g7,z⟩:=o;refine bD (fun A=>?_) (fun A=>?_)
       ·subst A;intro h;exact dP (aO (hs:=[.run 1,.val b,.val i,.val (.int .i64 m),.dec true,.aJ,.aJ,.run 1,.val d,.val (.int .i64 (n3030:Int)),.dec false,.eE [0,2,3,19] .normal [] a,.run 1,.val d,.run 1,.call (.str c3) c4,.bM c7 c8,.bM d0 d1,.run 1,.bM AV.undef d2,.run 3,.call (.tuple []) d4,.run 1,.val d6,.run 1,.call (.agg [(.int .i64 d9),(.str e0),(.int .i64 e1),(.bool e2),(.int .i64 e3),(.str e4),e5,e6,e7,e8]) e9,.bM f2 f3,.bM f5 f6,.run 1,.bM AV.undef f7,.run 1,.call (.bool true) z,.run 1,.aJ]) (want:=[0,2,3]) (by kernel_rfl) (.cons (aY (n+24002) f9)<|.cons (aP f8)<|.cons f4<|.cons f1<|.cons (jE f0 y)<|.cons (eL (n+1) d8)<|.cons d7<|.cons (bL (n+24001) d5)<|.cons (aP d3)<|.cons c9<|.cons c6<|.cons (jE c5 x)<|.cons (cG (n+24002) c2)<|.cons f<|.cons (kB n a c1)<|.cons (decide_eq_false p)<|.cons (fD (P:=C0.P) (t:=22) (e:=9) (by kernel_rfl) q)<|.cons f<|.cons (gA c)<|.cons l<|.cons j<|.cons (cC g) .nil)) (ih z _ h)
       ·obtain rfl:=bF A;intro h;obtain rfl:=cB h;exact cF (aO (hs:=[.run 1,.val b,.val i,.val (.int .i64 m),.dec true,.aJ,.aJ,.run 1,.val d,.val (.int .i64 (n3030:Int)),.dec false,.eE [0,2,3,19] .normal [] a,.run 1,.val d,.run 1,.call (.str c3) c4,.bM c7 c8,.bM d0 d1,.run 1,.bM AV.undef d2,.run 3,.call (.tuple []) d4,.run 1,.val d6,.run 1,.call (.agg [(.int .i64 d9),(.str e0),(.int .i64 e1),(.bool e2),(.int .i64 e3),(.str e4),e5,e6,e7,e8]) e9,.bM f2 f3,.bM f5 f6,.run 1,.bM AV.undef f7,.run 1,.call (.bool false) z,.run 1,.aJ]) (want:=[]) (by kernel_rfl) (.cons (aY (n+24002) f9)<|.cons (aP f8)<|.cons f4<|.cons f1<|.cons (jE f0 y)<|.cons (eL (n+1) d8)<|.cons d7<|.cons (bL (n+24001) d5)<|.cons (aP d3)<|.cons c9<|.cons c6<|.cons (jE c5 x)<|.cons (cG (n+24002) c2)<|.cons f<|.cons (kB n a c1)<|.cons (decide_eq_false p)<|.cons (fD (P:=C0.P) (t:=22) (e:=9) (by kernel_rfl) q)<|.cons f<|.cons (gA c)<|.cons l<|.cons j<|.cons (cC g) .nil)) (by kernel_rfl)
      ·exact fun h=>nomatch h
     ·exact fun h=>nomatch h
   ·intro h;obtain rfl:=cB h;exact cF (aO (hs:=[.run 1,.val b,.val i,.val (.int .i64 m),.dec false,.aJ]) (want:=[]) (by kernel_rfl) (.cons (eW c)<|.cons l<|.cons j<|.cons (cC g) .nil)) (by kernel_rfl)
noncomputable def iS (R:Nat)(a:AV)(b:Nat)(c:Nat)(d:St):Option (St):=
 (dS R a b c R d).bind fun e=>
 some e
theorem rT {R:Nat}(n:Nat){a:AV}{b:Nat}{c:Nat}{d:St}{r:St}(h:iS R a b c d=some r):
 cM 47 (bN C0 (aR C0 cK R (n+24004)) 27 R none (aQ C0.P 27 [1,1,1,0])) (bG (aQ C0.P 27 [1,1,1,0])) [(0,a),(2,(.ref b 0)),(3,(.ref c 0))] d .normal [] r:=by
 revert h;unfold iS;refine aA fun e f=>?_;intro h;obtain rfl:=cB h;exact aO (hs:=[.aJ,.abs [0,2,3] (.exit 0) [] e]) (want:=[]) (by kernel_rfl) (aK (cW (rI R n a b c R d _ f)) gD)
noncomputable def jO (R:Nat)(a:AV)(c:St):Option (Int×List UInt8×List UInt8×Int×List UInt8×Int×Bool×Int×List UInt8×AV×AV×AV×AV×AV×AV×Int×List UInt8×Int×Bool×Int×List UInt8×AV×AV×AV×AV×AV×Bool×Bool×List UInt8×Bool×Int×St):=
 (cE R a (St.push c (.cells 34 true [(.int .i64 0),(.str []),(.str []),(.int .i64 0),(.str []),(.int .i64 0),(.bool false),(.int .i64 0),(.str []),AV.aB,AV.aB,AV.aB,AV.aB,AV.aB,AV.aB,(.int .i64 0),(.str []),(.int .i64 0),(.bool false),(.int .i64 0),(.str []),AV.aB,AV.aB,AV.aB,AV.aB,AV.aB,(.bool false),(.bool false),(.str []),(.bool false),(.int .i64 0)]))).bind fun(f,b)=>
 (storeAt C0.P (St.push b (.cells 34 true [(.int .i64 0),(.str []),(.str []),(.int .i64 0),(.str []),(.int .i64 0),(.bool false),(.int .i64 0),(.str []),AV.aB,AV.aB,AV.aB,AV.aB,AV.aB,AV.aB,(.int .i64 0),(.str []),(.int .i64 0),(.bool false),(.int .i64 0),(.str []),AV.aB,AV.aB,AV.aB,AV.aB,AV.aB,(.bool false),(.bool false),(.str []),(.bool false),(.int .i64 0)])) 34 (.ref (St.next b) 0) (.agg [(.int .i64 4),(.str f),(.str []),(.int .i64 0),(.str []),(.int .i64 0),(.bool false),(.int .i64 0),(.str []),AV.aB,AV.aB,AV.aB,AV.aB,AV.aB,AV.aB,(.int .i64 0),(.str []),(.int .i64 0),(.bool false),(.int .i64 0),(.str []),AV.aB,AV.aB,AV.aB,AV.aB,AV.aB,(.bool false),(.bool false),(.str []),(.bool false),(.int .i64 (-1))])).bind fun g=>
 (b9 R a a [83,69,84] g).bind fun h=>
 (iS R a (St.next c) (St.next b) h).bind fun i=>
 (gP R a i).bind fun(j,k,l,m,n,o,p,q,r,s,t)=>
 (storeAt C0.P t 32 (.ref (St.next b) 15) (.agg [(.int .i64 j),(.str k),(.int .i64 l),(.bool m),(.int .i64 n),(.str o),p,q,r,s])).bind fun d=>
 (loadAt C0.P d 34 (.ref (St.next b) 0)).bind fun u=>
 (aD u).bind fun(v,w,x,y,z,A,B,C,D,E,F,G,H,I,J,K,L,M,N,O,Q,S,T,U,V,W,X,Y,Z,a0,a1)=>
 (storeAt C0.P d 34 (.ref (St.next c) 0) (.agg [(.int .i64 v),(.str w),(.str x),(.int .i64 y),(.str z),(.int .i64 A),(.bool B),(.int .i64 C),(.str D),E,F,G,H,I,J,(.int .i64 K),(.str L),(.int .i64 M),(.bool N),(.int .i64 O),(.str Q),S,T,U,V,W,(.bool X),(.bool Y),(.str Z),(.bool a0),(.int .i64 a1)])).bind fun e=>
 (loadAt C0.P e 34 (.ref (St.next c) 0)).bind fun a2=>
 (aD a2).bind fun(a3,a4,a5,a6,a7,a8,a9,b0,b1,b2,b3,b4,b5,b6,b7,b8,c0,c1,c2,c3,c4,c5,c6,c7,c8,c9,d0,d1,d2,d3,d4)=>
 some (a3,a4,a5,a6,a7,a8,a9,b0,b1,b2,b3,b4,b5,b6,b7,b8,c0,c1,c2,c3,c4,c5,c6,c7,c8,c9,d0,d1,d2,d3,d4,e)
theorem xF {R:Nat}(n:Nat){a:AV}{b:St}{r:Int×List UInt8×List UInt8×Int×List UInt8×Int×Bool×Int×List UInt8×AV×AV×AV×AV×AV×AV×Int×List UInt8×Int×Bool×Int×List UInt8×AV×AV×AV×AV×AV×Bool×Bool×List UInt8×Bool×Int×St}(h:jO R a b=some r):
 b7 (aR C0 cK R (n+24005)) false 27 [a] b (.agg [.int .i64 r.1,.str r.2.1,.str r.2.2.1,.int .i64 r.2.2.2.1,.str r.2.2.2.2.1,.int .i64 r.2.2.2.2.2.1,.bool r.2.2.2.2.2.2.1,.int .i64 r.2.2.2.2.2.2.2.1,.str r.2.2.2.2.2.2.2.2.1,r.2.2.2.2.2.2.2.2.2.1,r.2.2.2.2.2.2.2.2.2.2.1,r.2.2.2.2.2.2.2.2.2.2.2.1,r.2.2.2.2.2.2.2.2.2.2.2.2.1,r.2.2.2.2.2.2.2.2.2.2.2.2.2.1,r.2.2.2.2.2.2.2.2.2.2.2.2.2.2.1,.int .i64 r.2.2.2.2.2.2.2.2.2.2.2.2.2.2.2.1,.str r.2.2.2.2.2.2.2.2.2.2.2.2.2.2.2.2.1,.int .i64 r.2.2.2.2.2.2.2.2.2.2.2.2.2.2.2.2.2.1,.bool r.2.2.2.2.2.2.2.2.2.2.2.2.2.2.2.2.2.2.1,.int .i64 r.2.2.2.2.2.2.2.2.2.2.2.2.2.2.2.2.2.2.2.1,.str r.2.2.2.2.2.2.2.2.2.2.2.2.2.2.2.2.2.2.2.2.1,r.2.2.2.2.2.2.2.2.2.2.2.2.2.2.2.2.2.2.2.2.2.1,r.2.2.2.2.2.2.2.2.2.2.2.2.2.2.2.2.2.2.2.2.2.2.1,r.2.2.2.2.2.2.2.2.2.2.2.2.2.2.2.2.2.2.2.2.2.2.2.1,r.2.2.2.2.2.2.2.2.2.2.2.2.2.2.2.2.2.2.2.2.2.2.2.2.1,r.2.2.2.2.2.2.2.2.2.2.2.2.2.2.2.2.2.2.2.2.2.2.2.2.2.1,.bool r.2.2.2.2.2.2.2.2.2.2.2.2.2.2.2.2.2.2.2.2.2.2.2.2.2.2.1,.bool r.2.2.2.2.2.2.2.2.2.2.2.2.2.2.2.2.2.2.2.2.2.2.2.2.2.2.2.1,.str r.2.2.2.2.2.2.2.2.2.2.2.2.2.2.2.2.2.2.2.2.2.2.2.2.2.2.2.2.1,.bool r.2.2.2.2.2.2.2.2.2.2.2.2.2.2.2.2.2.2.2.2.2.2.2.2.2.2.2.2.2.1,.int .i64 r.2.2.2.2.2.2.2.2.2.2.2.2.2.2.2.2.2.2.2.2.2.2.2.2.2.2.2.2.2.2.1]) r.2.2.2.2.2.2.2.2.2.2.2.2.2.2.2.2.2.2.2.2.2.2.2.2.2.2.2.2.2.2.2:=by
 revert h;unfold jO;refine aA fun o c=>?_;obtain⟨d,e⟩:=o;refine aA fun f g=>?_;refine aA fun i j=>?_;refine aA fun k l=>?_;refine aA fun o m=>?_;obtain⟨p,q,s,t,u,v,w,x,y,z,A⟩:=o;refine aA fun B C=>?_;refine aA fun e7 D=>?_;refine aA fun o E=>?_;obtain⟨F,G,H,I,J,K,L,M,N,O,P,Q,S,T,U,V,W,X,Y,Z,a0,a1,a2,a3,a4,a5,a6,a7,a8,a9,b0⟩:=o;obtain rfl:=aF E;refine aA fun b1 b2=>?_;refine aA fun e8 b3=>?_;refine aA fun o b4=>?_;obtain⟨b5,b6,b8,b9,c0,c1,c2,c3,c4,c5,c6,c7,c8,c9,d0,d1,d2,d3,d4,d5,d6,d7,d8,d9,e0,e1,e2,e3,e4,e5,e6⟩:=o;obtain rfl:=aF b4;intro h;obtain rfl:=cB h;exact aL (hs:=[.run 2,.call (.str d) e,.run 2,.bM AV.undef f,.run 3,.call (.tuple []) i,.rX [0,2,3] .normal [] k,.run 1,.call (aN p q s t u v w x y z) A,.run 1,.bM AV.undef B,.val (aG F G H I J K L M N O P Q S T U V W X Y Z a0 a1 a2 a3 a4 a5 a6 a7 a8 a9 b0),.bM AV.undef b1,.val (aG b5 b6 b8 b9 c0 c1 c2 c3 c4 c5 c6 c7 c8 c9 d0 d1 d2 d3 d4 d5 d6 d7 d8 d9 e0 e1 e2 e3 e4 e5 e6)]) (by kernel_rfl) (aK b3<|aK (aP b2)<|aK D<|aK (aP C)<|aK (mS n m)<|aK (rT n l)<|aK (bP (n+24001) j)<|aK (aP g)<|aK (cG (n+24002) c) gD) (by kernel_rfl) (by kernel_rfl)
noncomputable def eM (R:Nat)(a:AV)(d:Nat)(e:Nat)(b:St):Option (St):=
 (bJ R a 3 b).bind fun c=>
 some c
theorem nM {R:Nat}(n:Nat){a:AV}{b:Nat}{c:Nat}{d:St}{r:St}(h:eM R a b c d=some r):
 cM 76 (bN C0 (aR C0 cK R (n+24004)) 29 R none (aQ C0.P 29 [1,1,0,0,1,1,1,1,1,0,0,1,0,0,1])) (bG (aQ C0.P 29 [1,1,0,0,1,1,1,1,1,0,0,1,0,0,1])) [(0,a),(2,(.ref b 0)),(3,(.ref c 0)),(17,(.bool true))] d .normal [] r:=by
 revert h;unfold eM;refine aA fun e f=>?_;intro h;obtain rfl:=cB h;exact aO (hs:=[.aJ,.run 1,.call (.tuple []) e]) (want:=[]) (by kernel_rfl) (aK (bO (n+24003) f) gD)
noncomputable def eD (R:Nat)(a:AV)(b:Nat)(c:Nat):Option (Unit):=
 some ()
theorem mZ {R:Nat}(n:Nat){a:AV}{b:Nat}{c:Nat}(d:St){r:Unit}(h:eD R a b c=some r):
 cM 76 (bN C0 (aR C0 cK R (n+24004)) 29 R none (aQ C0.P 29 [1,1,0,0,1,1,1,1,1,0,0,1,0,0,1])) (bG (aQ C0.P 29 [1,1,0,0,1,1,1,1,1,0,0,1,0,0,1])) [(0,a),(2,(.ref b 0)),(3,(.ref c 0)),(17,(.bool false))] d .normal [] d:=by
 revert h;unfold eD;intro h;obtain rfl:=cB h;exact aO (hs:=[.aJ]) (want:=[]) (by kernel_rfl) .nil
noncomputable def cX (R:Nat)(b:AV)(c:Nat)(a:Nat):Nat→St→Option ((St))
 | 0,_=>none
 | r + 1, j =>
   (cI R b [44] j).bind fun(k,d)=>
   if k = true then
    (loadAt C0.P d 22 (.ref a 25)).bind fun e=>
    (lenOf e).bind fun n3333=>
    if((n3333:Int)≥32) then
     (eM R b c a d).bind fun f=>
     (loadAt C0.P f 22 (.ref a 25)).bind fun g=>
     (eY R b f).bind fun(l,h)=>
     (loadAt C0.P h 22 (.ref a 25)).bind fun m=>
     if AV.beq m g=true then
      (eK (aU C0.P (C0.bU 29) 22 1 [(0,(.str l))]) h).bind fun(n,o)=>
      (bW C0.P (C0.bU 29) o #[22,22] g n).bind fun(p,q)=>
      (storeAt C0.P q 22 (.ref a 25) p).bind fun s=>
      cX R b c a r s
     else
      none
    else
     (eD R b c a).bind fun _=>
     (eY R b d).bind fun(t,i)=>
     (loadAt C0.P i 22 (.ref a 25)).bind fun u=>
     if AV.beq u e=true then
      (eK (aU C0.P (C0.bU 29) 22 1 [(0,(.str t))]) i).bind fun(v,w)=>
      (bW C0.P (C0.bU 29) w #[22,22] e v).bind fun(x,y)=>
      (storeAt C0.P y 22 (.ref a 25) x).bind fun z=>
      cX R b c a r z
     else
      none
   else
    some d
noncomputable def iG (o:(St)):cZ×List (Nat×AV)×St:=match o with
 | a0=>((.exit 1),[],a0)
theorem pB (R n : Nat) (j : AV) (l : Nat) (m : Nat) : ∀ (r : Nat) (b : St) (o : (St)), cX R j l m r b = some o →
 cM 76 (lO (fun fr k=>bN C0 (aR C0 cK R (n+24004)) 29 R none (aQ C0.P 29 [1,1,0,0,1,1,1,1,1,0,0]) fr k) r) (bG (aQ C0.P 29 [1,1,0,0,1,1,1,1,1,0,0])) [(0,j),(2,(.ref l 0)),(3,(.ref m 0))] b (iG o).1 (iG o).2.1 (iG o).2.2:=by
 intro r
 induction r with
 | zero=>intro b o h; exact nomatch h
 | succ r ih =>
   intro b o
   unfold cX;refine aA fun o c=>?_;obtain⟨Z,a⟩:=o;refine bD (fun d=>?_) (fun d=>?_)
   ·subst d;refine aA fun f g=>?_;refine aA fun n3333 p=>?_;refine bD (fun i=>?_) (fun i=>?_)
    ·refine aA fun w x=>?_;refine aA fun y z=>?_;refine aA fun o A=>?_;obtain⟨B,C⟩:=o;refine aA fun a0 D=>?_;refine bD (fun q=>?_) (fun q=>?_)
     ·refine aA fun o E=>?_;obtain⟨F,G⟩:=o;refine aA fun o H=>?_;obtain⟨I,J⟩:=o;refine aA fun s K=>?_;intro h;exact dP (aO (hs:=[.run 1,.call (.bool true) a,.aJ,.aJ,.run 1,.val f,.val (.int .i64 (n3333:Int)),.dec true,.eE [0,2,3,17] .normal [] w,.run 1,.val y,.run 1,.call (.str B) C,.bM F G,.bM I J,.run 1,.bM AV.undef s]) (want:=[0,2,3]) (by kernel_rfl) (.cons (aP K)<|.cons H<|.cons E<|.cons (jE D q)<|.cons (j0 (n+24001) A)<|.cons z<|.cons (nM n x)<|.cons (decide_eq_true i)<|.cons (fD (P:=C0.P) (t:=22) (e:=9) (by kernel_rfl) p)<|.cons g<|.cons (aY (n+24002) c) .nil)) (ih s _ h)
     ·exact fun h=>nomatch h
    ·refine aA fun _o L=>?_;refine aA fun o M=>?_;obtain⟨N,O⟩:=o;refine aA fun a1 Q=>?_;refine bD (fun u=>?_) (fun u=>?_)
     ·refine aA fun o S=>?_;obtain⟨T,U⟩:=o;refine aA fun o V=>?_;obtain⟨W,X⟩:=o;refine aA fun v Y=>?_;intro h;exact dP (aO (hs:=[.run 1,.call (.bool true) a,.aJ,.aJ,.run 1,.val f,.val (.int .i64 (n3333:Int)),.dec false,.eE [0,2,3,17] .normal [] a,.run 1,.val f,.run 1,.call (.str N) O,.bM T U,.bM W X,.run 1,.bM AV.undef v]) (want:=[0,2,3]) (by kernel_rfl) (.cons (aP Y)<|.cons V<|.cons S<|.cons (jE Q u)<|.cons (j0 (n+24001) M)<|.cons g<|.cons (mZ n a L)<|.cons (decide_eq_false i)<|.cons (fD (P:=C0.P) (t:=22) (e:=9) (by kernel_rfl) p)<|.cons g<|.cons (aY (n+24002) c) .nil)) (ih v _ h)
     ·exact fun h=>nomatch h
   ·obtain rfl:=bF d;intro h;obtain rfl:=cB h;exact cF (aO (hs:=[.run 1,.call (.bool false) a,.aJ]) (want:=[]) (by kernel_rfl) (.cons (aY (n+24002) c) .nil)) (by kernel_rfl)
noncomputable def gI (R:Nat)(b:AV)(g:Nat)(a:Nat)(h:St):Option (St):=
 (cI R b [42] h).bind fun(i,d)=>
 if i=true then
  some d
 else
  (bK R b [67,79,85,78,84] d).bind fun(j,c)=>
  if j=true then
   (storeAt C0.P c 4 (.ref a 26) (.bool true)).bind fun k=>
   some k
  else
   (loadAt C0.P c 22 (.ref a 25)).bind fun e=>
   (eY R b c).bind fun(l,f)=>
   (loadAt C0.P f 22 (.ref a 25)).bind fun m=>
   if AV.beq m e=true then
    (eK (aU C0.P (C0.bU 29) 22 1 [(0,(.str l))]) f).bind fun(n,o)=>
    (bW C0.P (C0.bU 29) o #[22,22] e n).bind fun(p,q)=>
    (storeAt C0.P q 22 (.ref a 25) p).bind fun r=>
    (cX R b g a R r).bind fun s=>
    some s
   else
    none
theorem sN {R : Nat} (n : Nat) {a : AV} {b : Nat} {c : Nat} {g : St} {r : St} (h : gI R a b c g = some r):
 cM 76 (bN C0 (aR C0 cK R (n+24004)) 29 R none (aQ C0.P 29 [1,1,0])) (bG (aQ C0.P 29 [1,1,0])) [(0,a),(2,(.ref b 0)),(3,(.ref c 0))] g .normal [] r:=by
 revert h;unfold gI;refine aA fun o l=>?_;obtain⟨H,d⟩:=o;have q9030:=aK (aY (n+24002) l) gD
 refine bD (fun e=>?_) (fun e=>?_)
 ·subst e;intro h;obtain rfl:=cB h;exact aO (hs:=[.aJ,.run 1,.call (.bool true) d,.run 1,.aJ]) (want:=[]) (by kernel_rfl) (q9030)
 ·obtain rfl:=bF e;refine aA fun o m=>?_;obtain⟨I,i⟩:=o;have q9031:=aK (bA (n+24002) m) q9030
  refine bD (fun f=>?_) (fun f=>?_)
  ·subst f;refine aA fun p q=>?_;intro h;obtain rfl:=cB h;exact aO (hs:=[.aJ,.run 1,.call (.bool false) d,.run 1,.aJ,.run 1,.call (.bool true) i,.run 1,.aJ,.run 1,.bM AV.undef p]) (want:=[]) (by kernel_rfl) (aK (aP q) q9031)
  ·obtain rfl:=bF f;refine aA fun s t=>?_;refine aA fun o u=>?_;obtain⟨v,w⟩:=o;refine aA fun J x=>?_;refine bD (fun j=>?_) (fun j=>?_)
   ·refine aA fun o y=>?_;obtain⟨z,A⟩:=o;refine aA fun o B=>?_;obtain⟨C,D⟩:=o;refine aA fun k E=>?_;refine aA fun F G=>?_;intro h;obtain rfl:=cB h;exact aO (hs:=[.aJ,.run 1,.call (.bool false) d,.run 1,.aJ,.run 1,.call (.bool false) i,.run 1,.aJ,.run 1,.val s,.run 1,.call (.str v) w,.bM z A,.bM C D,.run 1,.bM AV.undef k,.aJ,.abs [0,2,3] (.exit 1) [] F]) (want:=[]) (by kernel_rfl) (aK (cW (pB R n a b c R k _ G))<|aK (aP E)<|aK B<|aK y<|aK (jE x j)<|aK (j0 (n+24001) u)<|aK t q9031)
   ·exact fun h=>nomatch h
noncomputable def fF (R:Nat)(a:AV)(n:Nat)(b:Nat)(d:Bool)(c:St):Option (St):=
 if d=true then
  (bE R a a [40] c).bind fun e=>
  (cE R a e).bind fun(f,g)=>
  (storeAt C0.P g 4 (.ref b 27) (.bool true)).bind fun h=>
  (storeAt C0.P h 9 (.ref b 1) (.str f)).bind fun i=>
  (bE R a a [41] i).bind fun j=>
  some j
 else
  (cE R a c).bind fun(k,l)=>
  (storeAt C0.P l 9 (.ref b 1) (.str k)).bind fun m=>
  some m
theorem qQ {R:Nat}(n:Nat){b:AV}{c:Nat}{d:Nat}{e:Bool}{f:St}{r:St}(h:fF R b c d e f=some r):
 cM 76 (bN C0 (aR C0 cK R (n+24004)) 29 R none (aQ C0.P 29 [1,1,1,1,0,1])) (bG (aQ C0.P 29 [1,1,1,1,0,1])) [(0,b),(2,(.ref c 0)),(3,(.ref d 0)),(39,(.bool e))] f .normal [] r:=by
 revert h;unfold fF;refine bD (fun a=>?_) (fun a=>?_)
 ·subst a;refine aA fun g i=>?_;refine aA fun o j=>?_;obtain⟨k,l⟩:=o;refine aA fun m p=>?_;refine aA fun q s=>?_;refine aA fun t u=>?_;intro h;obtain rfl:=cB h;exact aO (hs:=[.aJ,.run 3,.call (.tuple []) g,.run 1,.call (.str k) l,.run 1,.bM AV.undef m,.run 1,.bM AV.undef q,.run 3,.call (.tuple []) t]) (want:=[]) (by kernel_rfl) (aK (bL (n+24001) u)<|aK (aP s)<|aK (aP p)<|aK (cG (n+24002) j)<|aK (bL (n+24001) i) gD)
 ·obtain rfl:=bF a;refine aA fun o v=>?_;obtain⟨w,x⟩:=o;refine aA fun y z=>?_;intro h;obtain rfl:=cB h;exact aO (hs:=[.aJ,.run 1,.call (.str w) x,.run 1,.bM AV.undef y]) (want:=[]) (by kernel_rfl) (aK (aP z)<|aK (cG (n+24002) v) gD)
noncomputable def eR (R:Nat)(a:AV)(l:Nat)(b:Nat)(d:Bool)(c:St):Option (St):=
 if d=true then
  (b9 R a a [66,89] c).bind fun e=>
  (eY R a e).bind fun(f,g)=>
  (storeAt C0.P g 9 (.ref b 28) (.str f)).bind fun h=>
  (bK R a [68,69,83,67] h).bind fun(i,j)=>
  (storeAt C0.P j 4 (.ref b 29) (.bool i)).bind fun k=>
  some k
 else
  some c
theorem pT {R:Nat}(n:Nat){b:AV}{c:Nat}{d:Nat}{e:Bool}{f:St}{r:St}(h:eR R b c d e f=some r):
 cM 76 (bN C0 (aR C0 cK R (n+24004)) 29 R none (aQ C0.P 29 [1,1,1,1,1,1,0,1])) (bG (aQ C0.P 29 [1,1,1,1,1,1,0,1])) [(0,b),(2,(.ref c 0)),(3,(.ref d 0)),(59,(.bool e))] f .normal [] r:=by
 revert h;unfold eR;refine bD (fun a=>?_) (fun a=>?_)
 ·subst a;refine aA fun g i=>?_;refine aA fun o j=>?_;obtain⟨k,l⟩:=o;refine aA fun m p=>?_;refine aA fun o q=>?_;obtain⟨s,t⟩:=o;refine aA fun u v=>?_;intro h;obtain rfl:=cB h;exact aO (hs:=[.aJ,.run 3,.call (.tuple []) g,.run 1,.call (.str k) l,.run 1,.bM AV.undef m,.run 1,.call (.bool s) t,.run 1,.bM AV.undef u]) (want:=[]) (by kernel_rfl) (aK (aP v)<|aK (bA (n+24002) q)<|aK (aP p)<|aK (j0 (n+24001) j)<|aK (bP (n+24001) i) gD)
 ·obtain rfl:=bF a;intro h;obtain rfl:=cB h;exact aO (hs:=[.aJ]) (want:=[]) (by kernel_rfl) .nil
noncomputable def eO (R:Nat)(b:AV)(h:Nat)(c:Nat)(d:Bool)(a:St):Option (St):=
 if d=true then
  (kD R b a).bind fun(e,f)=>
  (storeAt C0.P f 3 (.ref c 30) (.int .i64 e)).bind fun g=>
  some g
 else
  some a
theorem pG {R:Nat}(n:Nat){b:AV}{c:Nat}{d:Nat}{e:Bool}{f:St}{r:St}(h:eO R b c d e f=some r):
 cM 76 (bN C0 (aR C0 cK R (n+24004)) 29 R none (aQ C0.P 29 [1,1,1,1,1,1,1,0,1])) (bG (aQ C0.P 29 [1,1,1,1,1,1,1,0,1])) [(0,b),(2,(.ref c 0)),(3,(.ref d 0)),(71,(.bool e))] f .normal [] r:=by
 revert h;unfold eO;refine bD (fun a=>?_) (fun a=>?_)
 ·subst a;refine aA fun o g=>?_;obtain⟨i,j⟩:=o;refine aA fun k l=>?_;intro h;obtain rfl:=cB h;exact aO (hs:=[.aJ,.run 1,.call (.int .i64 i) j,.run 1,.bM AV.undef k]) (want:=[]) (by kernel_rfl) (aK (aP l)<|aK (xM (n+24002) g) gD)
 ·obtain rfl:=bF a;intro h;obtain rfl:=cB h;exact aO (hs:=[.aJ]) (want:=[]) (by kernel_rfl) .nil
noncomputable def jM (R:Nat)(b:AV)(a:St):Option (Int×List UInt8×List UInt8×Int×List UInt8×Int×Bool×Int×List UInt8×AV×AV×AV×AV×AV×AV×Int×List UInt8×Int×Bool×Int×List UInt8×AV×AV×AV×AV×AV×Bool×Bool×List UInt8×Bool×Int×St):=
 (storeAt C0.P (St.push (St.push a (.cells 34 true [(.int .i64 0),(.str []),(.str []),(.int .i64 0),(.str []),(.int .i64 0),(.bool false),(.int .i64 0),(.str []),AV.aB,AV.aB,AV.aB,AV.aB,AV.aB,AV.aB,(.int .i64 0),(.str []),(.int .i64 0),(.bool false),(.int .i64 0),(.str []),AV.aB,AV.aB,AV.aB,AV.aB,AV.aB,(.bool false),(.bool false),(.str []),(.bool false),(.int .i64 0)])) (.cells 34 true [(.int .i64 0),(.str []),(.str []),(.int .i64 0),(.str []),(.int .i64 0),(.bool false),(.int .i64 0),(.str []),AV.aB,AV.aB,AV.aB,AV.aB,AV.aB,AV.aB,(.int .i64 0),(.str []),(.int .i64 0),(.bool false),(.int .i64 0),(.str []),AV.aB,AV.aB,AV.aB,AV.aB,AV.aB,(.bool false),(.bool false),(.str []),(.bool false),(.int .i64 0)])) 34 (.ref (St.next (St.push a (.cells 34 true [(.int .i64 0),(.str []),(.str []),(.int .i64 0),(.str []),(.int .i64 0),(.bool false),(.int .i64 0),(.str []),AV.aB,AV.aB,AV.aB,AV.aB,AV.aB,AV.aB,(.int .i64 0),(.str []),(.int .i64 0),(.bool false),(.int .i64 0),(.str []),AV.aB,AV.aB,AV.aB,AV.aB,AV.aB,(.bool false),(.bool false),(.str []),(.bool false),(.int .i64 0)]))) 0) (.agg [(.int .i64 6),(.str []),(.str []),(.int .i64 0),(.str []),(.int .i64 0),(.bool false),(.int .i64 0),(.str []),AV.aB,AV.aB,AV.aB,AV.aB,AV.aB,AV.aB,(.int .i64 0),(.str []),(.int .i64 0),(.bool false),(.int .i64 0),(.str []),AV.aB,AV.aB,AV.aB,AV.aB,AV.aB,(.bool false),(.bool false),(.str []),(.bool false),(.int .i64 (-1))])).bind fun e=>
 (gI R b (St.next a) (St.next (St.push a (.cells 34 true [(.int .i64 0),(.str []),(.str []),(.int .i64 0),(.str []),(.int .i64 0),(.bool false),(.int .i64 0),(.str []),AV.aB,AV.aB,AV.aB,AV.aB,AV.aB,AV.aB,(.int .i64 0),(.str []),(.int .i64 0),(.bool false),(.int .i64 0),(.str []),AV.aB,AV.aB,AV.aB,AV.aB,AV.aB,(.bool false),(.bool false),(.str []),(.bool false),(.int .i64 0)]))) e).bind fun f=>
 (b9 R b b [70,82,79,77] f).bind fun g=>
 (bK R b [72,73,83,84,79,82,89] g).bind fun(h,i)=>
 (fF R b (St.next a) (St.next (St.push a (.cells 34 true [(.int .i64 0),(.str []),(.str []),(.int .i64 0),(.str []),(.int .i64 0),(.bool false),(.int .i64 0),(.str []),AV.aB,AV.aB,AV.aB,AV.aB,AV.aB,AV.aB,(.int .i64 0),(.str []),(.int .i64 0),(.bool false),(.int .i64 0),(.str []),AV.aB,AV.aB,AV.aB,AV.aB,AV.aB,(.bool false),(.bool false),(.str []),(.bool false),(.int .i64 0)]))) h i).bind fun j=>
 (gP R b j).bind fun(k,l,m,n,o,p,q,r,s,t,u)=>
 (storeAt C0.P u 32 (.ref (St.next (St.push a (.cells 34 true [(.int .i64 0),(.str []),(.str []),(.int .i64 0),(.str []),(.int .i64 0),(.bool false),(.int .i64 0),(.str []),AV.aB,AV.aB,AV.aB,AV.aB,AV.aB,AV.aB,(.int .i64 0),(.str []),(.int .i64 0),(.bool false),(.int .i64 0),(.str []),AV.aB,AV.aB,AV.aB,AV.aB,AV.aB,(.bool false),(.bool false),(.str []),(.bool false),(.int .i64 0)]))) 15) (.agg [(.int .i64 k),(.str l),(.int .i64 m),(.bool n),(.int .i64 o),(.str p),q,r,s,t])).bind fun v=>
 (bK R b [79,82,68,69,82] v).bind fun(w,x)=>
 (eR R b (St.next a) (St.next (St.push a (.cells 34 true [(.int .i64 0),(.str []),(.str []),(.int .i64 0),(.str []),(.int .i64 0),(.bool false),(.int .i64 0),(.str []),AV.aB,AV.aB,AV.aB,AV.aB,AV.aB,AV.aB,(.int .i64 0),(.str []),(.int .i64 0),(.bool false),(.int .i64 0),(.str []),AV.aB,AV.aB,AV.aB,AV.aB,AV.aB,(.bool false),(.bool false),(.str []),(.bool false),(.int .i64 0)]))) w x).bind fun y=>
 (bK R b [76,73,77,73,84] y).bind fun(z,A)=>
 (eO R b (St.next a) (St.next (St.push a (.cells 34 true [(.int .i64 0),(.str []),(.str []),(.int .i64 0),(.str []),(.int .i64 0),(.bool false),(.int .i64 0),(.str []),AV.aB,AV.aB,AV.aB,AV.aB,AV.aB,AV.aB,(.int .i64 0),(.str []),(.int .i64 0),(.bool false),(.int .i64 0),(.str []),AV.aB,AV.aB,AV.aB,AV.aB,AV.aB,(.bool false),(.bool false),(.str []),(.bool false),(.int .i64 0)]))) z A).bind fun c=>
 (loadAt C0.P c 34 (.ref (St.next (St.push a (.cells 34 true [(.int .i64 0),(.str []),(.str []),(.int .i64 0),(.str []),(.int .i64 0),(.bool false),(.int .i64 0),(.str []),AV.aB,AV.aB,AV.aB,AV.aB,AV.aB,AV.aB,(.int .i64 0),(.str []),(.int .i64 0),(.bool false),(.int .i64 0),(.str []),AV.aB,AV.aB,AV.aB,AV.aB,AV.aB,(.bool false),(.bool false),(.str []),(.bool false),(.int .i64 0)]))) 0)).bind fun B=>
 (aD B).bind fun(C,D,E,F,G,H,I,J,K,L,M,N,O,Q,S,T,U,V,W,X,Y,Z,a0,a1,a2,a3,a4,a5,a6,a7,a8)=>
 (storeAt C0.P c 34 (.ref (St.next a) 0) (.agg [(.int .i64 C),(.str D),(.str E),(.int .i64 F),(.str G),(.int .i64 H),(.bool I),(.int .i64 J),(.str K),L,M,N,O,Q,S,(.int .i64 T),(.str U),(.int .i64 V),(.bool W),(.int .i64 X),(.str Y),Z,a0,a1,a2,a3,(.bool a4),(.bool a5),(.str a6),(.bool a7),(.int .i64 a8)])).bind fun d=>
 (loadAt C0.P d 34 (.ref (St.next a) 0)).bind fun a9=>
 (aD a9).bind fun(b0,b1,b2,b3,b4,b5,b6,b7,b8,c0,c1,c2,c3,c4,c5,c6,c7,c8,c9,d0,d1,d2,d3,d4,d5,d6,d7,d8,d9,e0,e1)=>
 some (b0,b1,b2,b3,b4,b5,b6,b7,b8,c0,c1,c2,c3,c4,c5,c6,c7,c8,c9,d0,d1,d2,d3,d4,d5,d6,d7,d8,d9,e0,e1,d)
theorem xH {R:Nat}(n:Nat){a:AV}{b:St}{r:Int×List UInt8×List UInt8×Int×List UInt8×Int×Bool×Int×List UInt8×AV×AV×AV×AV×AV×AV×Int×List UInt8×Int×Bool×Int×List UInt8×AV×AV×AV×AV×AV×Bool×Bool×List UInt8×Bool×Int×St}(h:jM R a b=some r):
 b7 (aR C0 cK R (n+24005)) false 29 [a] b (.agg [.int .i64 r.1,.str r.2.1,.str r.2.2.1,.int .i64 r.2.2.2.1,.str r.2.2.2.2.1,.int .i64 r.2.2.2.2.2.1,.bool r.2.2.2.2.2.2.1,.int .i64 r.2.2.2.2.2.2.2.1,.str r.2.2.2.2.2.2.2.2.1,r.2.2.2.2.2.2.2.2.2.1,r.2.2.2.2.2.2.2.2.2.2.1,r.2.2.2.2.2.2.2.2.2.2.2.1,r.2.2.2.2.2.2.2.2.2.2.2.2.1,r.2.2.2.2.2.2.2.2.2.2.2.2.2.1,r.2.2.2.2.2.2.2.2.2.2.2.2.2.2.1,.int .i64 r.2.2.2.2.2.2.2.2.2.2.2.2.2.2.2.1,.str r.2.2.2.2.2.2.2.2.2.2.2.2.2.2.2.2.1,.int .i64 r.2.2.2.2.2.2.2.2.2.2.2.2.2.2.2.2.2.1,.bool r.2.2.2.2.2.2.2.2.2.2.2.2.2.2.2.2.2.2.1,.int .i64 r.2.2.2.2.2.2.2.2.2.2.2.2.2.2.2.2.2.2.2.1,.str r.2.2.2.2.2.2.2.2.2.2.2.2.2.2.2.2.2.2.2.2.1,r.2.2.2.2.2.2.2.2.2.2.2.2.2.2.2.2.2.2.2.2.2.1,r.2.2.2.2.2.2.2.2.2.2.2.2.2.2.2.2.2.2.2.2.2.2.1,r.2.2.2.2.2.2.2.2.2.2.2.2.2.2.2.2.2.2.2.2.2.2.2.1,r.2.2.2.2.2.2.2.2.2.2.2.2.2.2.2.2.2.2.2.2.2.2.2.2.1,r.2.2.2.2.2.2.2.2.2.2.2.2.2.2.2.2.2.2.2.2.2.2.2.2.2.1,.bool r.2.2.2.2.2.2.2.2.2.2.2.2.2.2.2.2.2.2.2.2.2.2.2.2.2.2.1,.bool r.2.2.2.2.2.2.2.2.2.2.2.2.2.2.2.2.2.2.2.2.2.2.2.2.2.2.2.1,.str r.2.2.2.2.2.2.2.2.2.2.2.2.2.2.2.2.2.2.2.2.2.2.2.2.2.2.2.2.1,.bool r.2.2.2.2.2.2.2.2.2.2.2.2.2.2.2.2.2.2.2.2.2.2.2.2.2.2.2.2.2.1,.int .i64 r.2.2.2.2.2.2.2.2.2.2.2.2.2.2.2.2.2.2.2.2.2.2.2.2.2.2.2.2.2.2.1]) r.2.2.2.2.2.2.2.2.2.2.2.2.2.2.2.2.2.2.2.2.2.2.2.2.2.2.2.2.2.2.2:=by
 revert h;unfold jM;refine aA fun c d=>?_;refine aA fun e f=>?_;refine aA fun g i=>?_;refine aA fun o j=>?_;obtain⟨k,l⟩:=o;refine aA fun m p=>?_;refine aA fun o q=>?_;obtain⟨s,t,u,v,w,x,y,z,A,B,C⟩:=o;refine aA fun D E=>?_;refine aA fun o F=>?_;obtain⟨G,H⟩:=o;refine aA fun I J=>?_;refine aA fun o K=>?_;obtain⟨L,M⟩:=o;refine aA fun N O=>?_;refine aA fun f9 P=>?_;refine aA fun o Q=>?_;obtain⟨S,T,U,V,W,X,Y,Z,a0,a1,a2,a3,a4,a5,a6,a7,a8,a9,b0,b1,b2,b3,b4,b5,b6,b8,b9,c0,c1,c2,c3⟩:=o;obtain rfl:=aF Q;refine aA fun c4 c5=>?_;refine aA fun g0 c6=>?_;refine aA fun o c7=>?_;obtain⟨c8,c9,d0,d1,d2,d3,d4,d5,d6,d7,d8,d9,e0,e1,e2,e3,e4,e5,e6,e7,e8,e9,f0,f1,f2,f3,f4,f5,f6,f7,f8⟩:=o
 obtain rfl:=aF c7;intro h;obtain rfl:=cB h;exact aL (hs:=[.run 3,.bM AV.undef c,.rX [0,2,3] .normal [] e,.run 3,.call (.tuple []) g,.run 1,.call (.bool k) l,.eE [0,2,3,39] .normal [] m,.run 1,.call (aN s t u v w x y z A B) C,.run 1,.bM AV.undef D,.run 1,.call (.bool G) H,.eE [0,2,3,59] .normal [] I,.run 1,.call (.bool L) M,.eE [0,2,3,71] .normal [] N,.val (aG S T U V W X Y Z a0 a1 a2 a3 a4 a5 a6 a7 a8 a9 b0 b1 b2 b3 b4 b5 b6 b8 b9 c0 c1 c2 c3),.bM AV.undef c4,.val (aG c8 c9 d0 d1 d2 d3 d4 d5 d6 d7 d8 d9 e0 e1 e2 e3 e4 e5 e6 e7 e8 e9 f0 f1 f2 f3 f4 f5 f6 f7 f8)]) (by kernel_rfl) (aK c6<|aK (aP c5)<|aK P<|aK (pG n O)<|aK (bA (n+24002) K)<|aK (pT n J)<|aK (bA (n+24002) F)<|aK (aP E)<|aK (mS n q)<|aK (qQ n p)<|aK (bA (n+24002) j)<|aK (bP (n+24001) i)<|aK (sN n f)<|aK (aP d) gD) (by kernel_rfl) (by kernel_rfl)
noncomputable def kQ (R:Nat)(a:AV)(b:St):Option (Int×List UInt8×List UInt8×Int×List UInt8×Int×Bool×Int×List UInt8×AV×AV×AV×AV×AV×AV×Int×List UInt8×Int×Bool×Int×List UInt8×AV×AV×AV×AV×AV×Bool×Bool×List UInt8×Bool×Int×St):=
 (bK R a [67,82,69,65,84,69] (St.push b (.cells 34 true [(.int .i64 0),(.str []),(.str []),(.int .i64 0),(.str []),(.int .i64 0),(.bool false),(.int .i64 0),(.str []),AV.aB,AV.aB,AV.aB,AV.aB,AV.aB,AV.aB,(.int .i64 0),(.str []),(.int .i64 0),(.bool false),(.int .i64 0),(.str []),AV.aB,AV.aB,AV.aB,AV.aB,AV.aB,(.bool false),(.bool false),(.str []),(.bool false),(.int .i64 0)]))).bind fun(r,e)=>
 if r=true then
  (jN R a e).bind fun(s,t,u,v,w,x,y,z,A,B,C,D,E,F,G,H,I,J,K,L,M,N,O,Q,S,T,U,V,W,X,Y,Z)=>
  (storeAt C0.P Z 34 (.ref (St.next b) 0) (.agg [(.int .i64 s),(.str t),(.str u),(.int .i64 v),(.str w),(.int .i64 x),(.bool y),(.int .i64 z),(.str A),B,C,D,E,F,G,(.int .i64 H),(.str I),(.int .i64 J),(.bool K),(.int .i64 L),(.str M),N,O,Q,S,T,(.bool U),(.bool V),(.str W),(.bool X),(.int .i64 Y)])).bind fun f=>
  (loadAt C0.P f 34 (.ref (St.next b) 0)).bind fun a0=>
  (aD a0).bind fun(a1,a2,a3,a4,a5,a6,a7,a8,a9,b0,b1,b2,b3,b4,b5,b6,b7,b8,c0,c1,c2,c3,c4,c5,c6,c7,c8,c9,d0,d1,d2)=>
  some (a1,a2,a3,a4,a5,a6,a7,a8,a9,b0,b1,b2,b3,b4,b5,b6,b7,b8,c0,c1,c2,c3,c4,c5,c6,c7,c8,c9,d0,d1,d2,f)
 else
  (bK R a [73,78,83,69,82,84] e).bind fun(d3,g)=>
  if d3=true then
   (b9 R a a [73,78,84,79] g).bind fun d4=>
   (cE R a d4).bind fun(d5,c)=>
   (storeAt C0.P (St.push c (.cells 34 true [(.int .i64 0),(.str []),(.str []),(.int .i64 0),(.str []),(.int .i64 0),(.bool false),(.int .i64 0),(.str []),AV.aB,AV.aB,AV.aB,AV.aB,AV.aB,AV.aB,(.int .i64 0),(.str []),(.int .i64 0),(.bool false),(.int .i64 0),(.str []),AV.aB,AV.aB,AV.aB,AV.aB,AV.aB,(.bool false),(.bool false),(.str []),(.bool false),(.int .i64 0)])) 34 (.ref (St.next c) 0) (.agg [(.int .i64 3),(.str d5),(.str []),(.int .i64 0),(.str []),(.int .i64 0),(.bool false),(.int .i64 0),(.str []),AV.aB,AV.aB,AV.aB,AV.aB,AV.aB,AV.aB,(.int .i64 0),(.str []),(.int .i64 0),(.bool false),(.int .i64 0),(.str []),AV.aB,AV.aB,AV.aB,AV.aB,AV.aB,(.bool false),(.bool false),(.str []),(.bool false),(.int .i64 (-1))])).bind fun d6=>
   (b9 R a a [86,65,76,85,69] d6).bind fun d7=>
   (fJ R a 0 d7).bind fun(d8,d9,e0,e1,e2,e3,e4,e5,e6,e7,e8)=>
   (storeAt C0.P e8 32 (.ref (St.next c) 3) (.agg [(.int .i64 d8),(.str d9),(.int .i64 e0),(.bool e1),(.int .i64 e2),(.str e3),e4,e5,e6,e7])).bind fun h=>
   (loadAt C0.P h 34 (.ref (St.next c) 0)).bind fun e9=>
   (aD e9).bind fun(f0,f1,f2,f3,f4,f5,f6,f7,f8,f9,g0,g1,g2,g3,g4,g5,g6,g7,g8,g9,h0,h1,h2,h3,h4,h5,h6,h7,h8,h9,i0)=>
   (storeAt C0.P h 34 (.ref (St.next b) 0) (.agg [(.int .i64 f0),(.str f1),(.str f2),(.int .i64 f3),(.str f4),(.int .i64 f5),(.bool f6),(.int .i64 f7),(.str f8),f9,g0,g1,g2,g3,g4,(.int .i64 g5),(.str g6),(.int .i64 g7),(.bool g8),(.int .i64 g9),(.str h0),h1,h2,h3,h4,h5,(.bool h6),(.bool h7),(.str h8),(.bool h9),(.int .i64 i0)])).bind fun i=>
   (loadAt C0.P i 34 (.ref (St.next b) 0)).bind fun i1=>
   (aD i1).bind fun(i2,i3,i4,i5,i6,i7,i9,j0,j1,j2,j3,j4,j5,j6,j7,j8,j9,k0,k1,k2,k3,k4,k5,k6,k7,k8,k9,l0,l1,l2,l3)=>
   some (i2,i3,i4,i5,i6,i7,i9,j0,j1,j2,j3,j4,j5,j6,j7,j8,j9,k0,k1,k2,k3,k4,k5,k6,k7,k8,k9,l0,l1,l2,l3,i)
  else
   (bK R a [85,80,68,65,84,69] g).bind fun(l4,j)=>
   if l4=true then
    (jO R a j).bind fun(l5,l6,l7,l8,l9,m0,m1,m2,m3,m4,m5,m6,m7,m8,m9,n0,n1,n2,n3,n4,n5,n6,n7,n8,n9,o0,o1,o2,o3,o4,o5,o6)=>
    (storeAt C0.P o6 34 (.ref (St.next b) 0) (.agg [(.int .i64 l5),(.str l6),(.str l7),(.int .i64 l8),(.str l9),(.int .i64 m0),(.bool m1),(.int .i64 m2),(.str m3),m4,m5,m6,m7,m8,m9,(.int .i64 n0),(.str n1),(.int .i64 n2),(.bool n3),(.int .i64 n4),(.str n5),n6,n7,n8,n9,o0,(.bool o1),(.bool o2),(.str o3),(.bool o4),(.int .i64 o5)])).bind fun k=>
    (loadAt C0.P k 34 (.ref (St.next b) 0)).bind fun o7=>
    (aD o7).bind fun(o8,o9,p0,p1,p2,p3,p4,p5,p6,p7,p8,p9,q0,q1,q2,q3,q4,q5,q6,q7,q8,q9,r0,r1,r2,r3,r4,r5,r6,r7,r8)=>
    some (o8,o9,p0,p1,p2,p3,p4,p5,p6,p7,p8,p9,q0,q1,q2,q3,q4,q5,q6,q7,q8,q9,r0,r1,r2,r3,r4,r5,r6,r7,r8,k)
   else
    (bK R a [68,69,76,69,84,69] j).bind fun(r9,l)=>
    if r9=true then
     (b9 R a a [70,82,79,77] l).bind fun s0=>
     (cE R a s0).bind fun(s1,d)=>
     (storeAt C0.P (St.push d (.cells 34 true [(.int .i64 0),(.str []),(.str []),(.int .i64 0),(.str []),(.int .i64 0),(.bool false),(.int .i64 0),(.str []),AV.aB,AV.aB,AV.aB,AV.aB,AV.aB,AV.aB,(.int .i64 0),(.str []),(.int .i64 0),(.bool false),(.int .i64 0),(.str []),AV.aB,AV.aB,AV.aB,AV.aB,AV.aB,(.bool false),(.bool false),(.str []),(.bool false),(.int .i64 0)])) 34 (.ref (St.next d) 0) (.agg [(.int .i64 5),(.str s1),(.str []),(.int .i64 0),(.str []),(.int .i64 0),(.bool false),(.int .i64 0),(.str []),AV.aB,AV.aB,AV.aB,AV.aB,AV.aB,AV.aB,(.int .i64 0),(.str []),(.int .i64 0),(.bool false),(.int .i64 0),(.str []),AV.aB,AV.aB,AV.aB,AV.aB,AV.aB,(.bool false),(.bool false),(.str []),(.bool false),(.int .i64 (-1))])).bind fun s2=>
     (gP R a s2).bind fun(s3,s4,s5,s6,s7,s8,s9,t0,t1,t2,t3)=>
     (storeAt C0.P t3 32 (.ref (St.next d) 15) (.agg [(.int .i64 s3),(.str s4),(.int .i64 s5),(.bool s6),(.int .i64 s7),(.str s8),s9,t0,t1,t2])).bind fun m=>
     (loadAt C0.P m 34 (.ref (St.next d) 0)).bind fun t4=>
     (aD t4).bind fun(t5,t6,t7,t8,t9,u0,u1,u2,u3,u4,u5,u6,u7,u9,v0,v1,v2,v3,v4,v5,v6,v7,v8,v9,w0,w1,w2,w3,w4,w5,w6)=>
     (storeAt C0.P m 34 (.ref (St.next b) 0) (.agg [(.int .i64 t5),(.str t6),(.str t7),(.int .i64 t8),(.str t9),(.int .i64 u0),(.bool u1),(.int .i64 u2),(.str u3),u4,u5,u6,u7,u9,v0,(.int .i64 v1),(.str v2),(.int .i64 v3),(.bool v4),(.int .i64 v5),(.str v6),v7,v8,v9,w0,w1,(.bool w2),(.bool w3),(.str w4),(.bool w5),(.int .i64 w6)])).bind fun n=>
     (loadAt C0.P n 34 (.ref (St.next b) 0)).bind fun w7=>
     (aD w7).bind fun(w8,w9,x0,x1,x2,x3,x4,x5,x6,x7,x8,x9,y0,y1,y2,y3,y4,y5,y6,y7,y8,y9,z0,z1,z2,z3,z4,z5,z6,z7,z8)=>
     some (w8,w9,x0,x1,x2,x3,x4,x5,x6,x7,x8,x9,y0,y1,y2,y3,y4,y5,y6,y7,y8,y9,z0,z1,z2,z3,z4,z5,z6,z7,z8,n)
    else
     (bK R a [83,69,76,69,67,84] l).bind fun(z9,o)=>
     if z9=true then
      (jM R a o).bind fun(A0,A1,A2,A3,A4,A5,A6,A7,A8,A9,B0,B1,B2,B3,B4,B5,B6,B7,B8,B9,C1,C2,C3,C4,C5,C6,C7,C8,C9,D0,D1,D2)=>
      (storeAt C0.P D2 34 (.ref (St.next b) 0) (.agg [(.int .i64 A0),(.str A1),(.str A2),(.int .i64 A3),(.str A4),(.int .i64 A5),(.bool A6),(.int .i64 A7),(.str A8),A9,B0,B1,B2,B3,B4,(.int .i64 B5),(.str B6),(.int .i64 B7),(.bool B8),(.int .i64 B9),(.str C1),C2,C3,C4,C5,C6,(.bool C7),(.bool C8),(.str C9),(.bool D0),(.int .i64 D1)])).bind fun p=>
      (loadAt C0.P p 34 (.ref (St.next b) 0)).bind fun D3=>
      (aD D3).bind fun(D4,D5,D6,D7,D8,D9,E0,E1,E2,E3,E4,E5,E6,E7,E8,E9,F0,F1,F2,F3,F4,F5,F6,F7,F8,F9,G0,G1,G2,G3,G4)=>
      some (D4,D5,D6,D7,D8,D9,E0,E1,E2,E3,E4,E5,E6,E7,E8,E9,F0,F1,F2,F3,F4,F5,F6,F7,F8,F9,G0,G1,G2,G3,G4,p)
     else
      (bJ R a 120 o).bind fun G5=>
      (storeAt C0.P G5 34 (.ref (St.next b) 0) (.agg [(.int .i64 0),(.str []),(.str []),(.int .i64 0),(.str []),(.int .i64 0),(.bool false),(.int .i64 0),(.str []),AV.aB,AV.aB,AV.aB,AV.aB,AV.aB,AV.aB,(.int .i64 0),(.str []),(.int .i64 0),(.bool false),(.int .i64 0),(.str []),AV.aB,AV.aB,AV.aB,AV.aB,AV.aB,(.bool false),(.bool false),(.str []),(.bool false),(.int .i64 0)])).bind fun q=>
      (loadAt C0.P q 34 (.ref (St.next b) 0)).bind fun G6=>
      (aD G6).bind fun(G7,G8,G9,H0,H1,H2,H3,H4,H5,H6,H7,H8,H9,I0,I1,I2,I3,I4,I5,I6,I7,I8,I9,J0,J1,J2,J3,J4,J5,J6,J7)=>
      some (G7,G8,G9,H0,H1,H2,H3,H4,H5,H6,H7,H8,H9,I0,I1,I2,I3,I4,I5,I6,I7,I8,I9,J0,J1,J2,J3,J4,J5,J6,J7,q)
theorem yR {R : Nat} (n : Nat) {k : AV} {l : St} {r : Int × List UInt8 × List UInt8 × Int × List UInt8 × Int × Bool × Int × List UInt8 × AV × AV × AV × AV × AV × AV × Int × List UInt8 × Int × Bool × Int × List UInt8 × AV × AV × AV × AV × AV × Bool × Bool × List UInt8 × Bool × Int × St} (h : kQ R k l = some r):
 b7 (aR C0 cK R (n+24006)) false 13 [k] l (.agg [.int .i64 r.1,.str r.2.1,.str r.2.2.1,.int .i64 r.2.2.2.1,.str r.2.2.2.2.1,.int .i64 r.2.2.2.2.2.1,.bool r.2.2.2.2.2.2.1,.int .i64 r.2.2.2.2.2.2.2.1,.str r.2.2.2.2.2.2.2.2.1,r.2.2.2.2.2.2.2.2.2.1,r.2.2.2.2.2.2.2.2.2.2.1,r.2.2.2.2.2.2.2.2.2.2.2.1,r.2.2.2.2.2.2.2.2.2.2.2.2.1,r.2.2.2.2.2.2.2.2.2.2.2.2.2.1,r.2.2.2.2.2.2.2.2.2.2.2.2.2.2.1,.int .i64 r.2.2.2.2.2.2.2.2.2.2.2.2.2.2.2.1,.str r.2.2.2.2.2.2.2.2.2.2.2.2.2.2.2.2.1,.int .i64 r.2.2.2.2.2.2.2.2.2.2.2.2.2.2.2.2.2.1,.bool r.2.2.2.2.2.2.2.2.2.2.2.2.2.2.2.2.2.2.1,.int .i64 r.2.2.2.2.2.2.2.2.2.2.2.2.2.2.2.2.2.2.2.1,.str r.2.2.2.2.2.2.2.2.2.2.2.2.2.2.2.2.2.2.2.2.1,r.2.2.2.2.2.2.2.2.2.2.2.2.2.2.2.2.2.2.2.2.2.1,r.2.2.2.2.2.2.2.2.2.2.2.2.2.2.2.2.2.2.2.2.2.2.1,r.2.2.2.2.2.2.2.2.2.2.2.2.2.2.2.2.2.2.2.2.2.2.2.1,r.2.2.2.2.2.2.2.2.2.2.2.2.2.2.2.2.2.2.2.2.2.2.2.2.1,r.2.2.2.2.2.2.2.2.2.2.2.2.2.2.2.2.2.2.2.2.2.2.2.2.2.1,.bool r.2.2.2.2.2.2.2.2.2.2.2.2.2.2.2.2.2.2.2.2.2.2.2.2.2.2.1,.bool r.2.2.2.2.2.2.2.2.2.2.2.2.2.2.2.2.2.2.2.2.2.2.2.2.2.2.2.1,.str r.2.2.2.2.2.2.2.2.2.2.2.2.2.2.2.2.2.2.2.2.2.2.2.2.2.2.2.2.1,.bool r.2.2.2.2.2.2.2.2.2.2.2.2.2.2.2.2.2.2.2.2.2.2.2.2.2.2.2.2.2.1,.int .i64 r.2.2.2.2.2.2.2.2.2.2.2.2.2.2.2.2.2.2.2.2.2.2.2.2.2.2.2.2.2.2.1]) r.2.2.2.2.2.2.2.2.2.2.2.2.2.2.2.2.2.2.2.2.2.2.2.2.2.2.2.2.2.2.2:=by
 revert h;unfold kQ;refine aA fun o p=>?_;obtain⟨N5,a⟩:=o;have q9032:=aK (bA (n+24003) p) gD
 refine bD (fun d=>?_) (fun d=>?_)
 ·subst d;refine aA fun o q=>?_;obtain⟨s,t,u,v,w,x,y,z,A,B,C,D,E,F,G,H,I,J,K,L,M,N,O,P,Q,S,T,U,V,W,X,Y⟩:=o;refine aA fun Z a0=>?_;refine aA fun N6 a1=>?_;refine aA fun o a2=>?_;obtain⟨a3,a4,a5,a6,a7,a8,a9,b0,b1,b2,b3,b4,b5,b6,b8,b9,c0,c1,c2,c3,c4,c5,c6,c7,c8,c9,d0,d1,d2,d3,d4⟩:=o;obtain rfl:=aF a2;intro h;obtain rfl:=cB h;exact aL (hs:=[.run 1,.aJ,.run 1,.call (.bool true) a,.run 1,.aJ,.run 1,.call (aG s t u v w x y z A B C D E F G H I J K L M N O P Q S T U V W X) Y,.bM AV.undef Z,.val (aG a3 a4 a5 a6 a7 a8 a9 b0 b1 b2 b3 b4 b5 b6 b8 b9 c0 c1 c2 c3 c4 c5 c6 c7 c8 c9 d0 d1 d2 d3 d4)]) (by kernel_rfl) (aK a1<|aK (aP a0)<|aK (xB (n+24001) q) q9032) (by kernel_rfl) (by kernel_rfl)
 ·obtain rfl:=bF d;refine aA fun o d5=>?_;obtain⟨N7,b⟩:=o;have q9033:=aK (bA (n+24003) d5) q9032
  refine bD (fun e=>?_) (fun e=>?_)
  ·subst e;refine aA fun d6 d7=>?_;refine aA fun o d8=>?_;obtain⟨d9,e0⟩:=o;refine aA fun e1 e2=>?_;refine aA fun e3 e4=>?_;refine aA fun o e5=>?_;obtain⟨e6,e7,e8,e9,f0,f1,f2,f3,f4,f5,f6⟩:=o;refine aA fun f7 f8=>?_;refine aA fun N8 f9=>?_;refine aA fun o g0=>?_;obtain⟨g1,g2,g3,g4,g5,g6,g7,g8,g9,h0,h1,h2,h3,h4,h5,h6,h7,h8,h9,i0,i1,i2,i3,i4,i5,i6,i7,i9,j0,j1,j2⟩:=o;obtain rfl:=aF g0;refine aA fun j3 j4=>?_;refine aA fun N9 j5=>?_;refine aA fun o j6=>?_;obtain⟨j7,j8,j9,k0,k1,k2,k3,k4,k5,k6,k7,k8,k9,l0,l1,l2,l3,l4,l5,l6,l7,l8,l9,m0,m1,m2,m3,m4,m5,m6,m7⟩:=o;obtain rfl:=aF j6;intro h;obtain rfl:=cB h
   exact aL (hs:=[.run 1,.aJ,.run 1,.call (.bool false) a,.run 1,.aJ,.run 1,.call (.bool true) b,.run 1,.aJ,.run 3,.call (.tuple []) d6,.run 1,.call (.str d9) e0,.run 2,.bM AV.undef e1,.run 3,.call (.tuple []) e3,.run 1,.call (aN e6 e7 e8 e9 f0 f1 f2 f3 f4 f5) f6,.run 1,.bM AV.undef f7,.val (aG g1 g2 g3 g4 g5 g6 g7 g8 g9 h0 h1 h2 h3 h4 h5 h6 h7 h8 h9 i0 i1 i2 i3 i4 i5 i6 i7 i9 j0 j1 j2),.bM AV.undef j3,.val (aG j7 j8 j9 k0 k1 k2 k3 k4 k5 k6 k7 k8 k9 l0 l1 l2 l3 l4 l5 l6 l7 l8 l9 m0 m1 m2 m3 m4 m5 m6 m7)]) (by kernel_rfl) (aK j5<|aK (aP j4)<|aK f9<|aK (aP f8)<|aK (eL (n+2) e5)<|aK (bP (n+24002) e4)<|aK (aP e2)<|aK (cG (n+24003) d8)<|aK (bP (n+24002) d7) q9033) (by kernel_rfl) (by kernel_rfl)
  ·obtain rfl:=bF e;refine aA fun o m8=>?_;obtain⟨O0,c⟩:=o;have q9034:=aK (bA (n+24003) m8) q9033
   refine bD (fun f=>?_) (fun f=>?_)
   ·subst f;refine aA fun o m9=>?_;obtain⟨n0,n1,n2,n3,n4,n5,n6,n7,n8,n9,o0,o1,o2,o3,o4,o5,o6,o7,o8,o9,p0,p1,p2,p3,p4,p5,p6,p7,p8,p9,q0,q1⟩:=o;refine aA fun q2 q3=>?_;refine aA fun O1 q4=>?_;refine aA fun o q5=>?_;obtain⟨q6,q7,q8,q9,r0,r1,r2,r3,r4,r5,r6,r7,r8,r9,s0,s1,s2,s3,s4,s5,s6,s7,s8,s9,t0,t1,t2,t3,t4,t5,t6⟩:=o;obtain rfl:=aF q5;intro h;obtain rfl:=cB h;exact aL (hs:=[.run 1,.aJ,.run 1,.call (.bool false) a,.run 1,.aJ,.run 1,.call (.bool false) b,.run 1,.aJ,.run 1,.call (.bool true) c,.run 1,.aJ,.run 1,.call (aG n0 n1 n2 n3 n4 n5 n6 n7 n8 n9 o0 o1 o2 o3 o4 o5 o6 o7 o8 o9 p0 p1 p2 p3 p4 p5 p6 p7 p8 p9 q0) q1,.bM AV.undef q2,.val (aG q6 q7 q8 q9 r0 r1 r2 r3 r4 r5 r6 r7 r8 r9 s0 s1 s2 s3 s4 s5 s6 s7 s8 s9 t0 t1 t2 t3 t4 t5 t6)]) (by kernel_rfl) (aK q4<|aK (aP q3)<|aK (xF n m9) q9034) (by kernel_rfl) (by kernel_rfl)
   ·obtain rfl:=bF f;refine aA fun o t7=>?_;obtain⟨O2,g⟩:=o;have q9035:=aK (bA (n+24003) t7) q9034
    refine bD (fun i=>?_) (fun i=>?_)
    ·subst i;refine aA fun t8 t9=>?_;refine aA fun o u0=>?_;obtain⟨u1,u2⟩:=o;refine aA fun u3 u4=>?_;refine aA fun o u5=>?_;obtain⟨u6,u7,u9,v0,v1,v2,v3,v4,v5,v6,v7⟩:=o;refine aA fun v8 v9=>?_;refine aA fun O3 w0=>?_;refine aA fun o w1=>?_;obtain⟨w2,w3,w4,w5,w6,w7,w8,w9,x0,x1,x2,x3,x4,x5,x6,x7,x8,x9,y0,y1,y2,y3,y4,y5,y6,y7,y8,y9,z0,z1,z2⟩:=o;obtain rfl:=aF w1;refine aA fun z3 z4=>?_;refine aA fun O4 z5=>?_;refine aA fun o z6=>?_;obtain⟨z7,z8,z9,A0,A1,A2,A3,A4,A5,A6,A7,A8,A9,B0,B1,B2,B3,B4,B5,B6,B7,B8,B9,C1,C2,C3,C4,C5,C6,C7,C8⟩:=o;obtain rfl:=aF z6;intro h;obtain rfl:=cB h;exact aL (hs:=[.run 1,.aJ,.run 1,.call (.bool false) a,.run 1,.aJ,.run 1,.call (.bool false) b,.run 1,.aJ,.run 1,.call (.bool false) c,.run 1,.aJ,.run 1,.call (.bool true) g,.run 1,.aJ,.run 3,.call (.tuple []) t8,.run 1,.call (.str u1) u2,.run 2,.bM AV.undef u3,.run 1,.call (aN u6 u7 u9 v0 v1 v2 v3 v4 v5 v6) v7,.run 1,.bM AV.undef v8,.val (aG w2 w3 w4 w5 w6 w7 w8 w9 x0 x1 x2 x3 x4 x5 x6 x7 x8 x9 y0 y1 y2 y3 y4 y5 y6 y7 y8 y9 z0 z1 z2),.bM AV.undef z3,.val (aG z7 z8 z9 A0 A1 A2 A3 A4 A5 A6 A7 A8 A9 B0 B1 B2 B3 B4 B5 B6 B7 B8 B9 C1 C2 C3 C4 C5 C6 C7 C8)]) (by kernel_rfl) (aK z5<|aK (aP z4)<|aK w0<|aK (aP v9)<|aK (mS (n+1) u5)<|aK (aP u4)<|aK (cG (n+24003) u0)<|aK (bP (n+24002) t9) q9035) (by kernel_rfl) (by kernel_rfl)
    ·obtain rfl:=bF i;refine aA fun o C9=>?_;obtain⟨O5,m⟩:=o;have q9036:=aK (bA (n+24003) C9) q9035
     refine bD (fun j=>?_) (fun j=>?_)
     ·subst j;refine aA fun o D0=>?_;obtain⟨D1,D2,D3,D4,D5,D6,D7,D8,D9,E0,E1,E2,E3,E4,E5,E6,E7,E8,E9,F0,F1,F2,F3,F4,F5,F6,F7,F8,F9,G0,G1,G2⟩:=o;refine aA fun G3 G4=>?_;refine aA fun O6 G5=>?_;refine aA fun o G6=>?_;obtain⟨G7,G8,G9,H0,H1,H2,H3,H4,H5,H6,H7,H8,H9,I0,I1,I2,I3,I4,I5,I6,I7,I8,I9,J0,J1,J2,J3,J4,J5,J6,J7⟩:=o;obtain rfl:=aF G6;intro h;obtain rfl:=cB h;exact aL (hs:=[.run 1,.aJ,.run 1,.call (.bool false) a,.run 1,.aJ,.run 1,.call (.bool false) b,.run 1,.aJ,.run 1,.call (.bool false) c,.run 1,.aJ,.run 1,.call (.bool false) g,.run 1,.aJ,.run 1,.call (.bool true) m,.run 1,.aJ,.run 1,.call (aG D1 D2 D3 D4 D5 D6 D7 D8 D9 E0 E1 E2 E3 E4 E5 E6 E7 E8 E9 F0 F1 F2 F3 F4 F5 F6 F7 F8 F9 G0 G1) G2,.bM AV.undef G3,.val (aG G7 G8 G9 H0 H1 H2 H3 H4 H5 H6 H7 H8 H9 I0 I1 I2 I3 I4 I5 I6 I7 I8 I9 J0 J1 J2 J3 J4 J5 J6 J7)]) (by kernel_rfl) (aK G5<|aK (aP G4)<|aK (xH n D0) q9036) (by kernel_rfl) (by kernel_rfl)
     ·obtain rfl:=bF j;refine aA fun J8 J9=>?_;refine aA fun K0 K1=>?_;refine aA fun O7 K2=>?_;refine aA fun o K3=>?_;obtain⟨K4,K5,K6,K7,K8,K9,L0,L1,L2,L3,L4,L5,L6,L7,L8,L9,M0,M1,M2,M3,M4,M5,M6,M7,M8,M9,N0,N1,N2,N3,N4⟩:=o;obtain rfl:=aF K3;intro h;obtain rfl:=cB h;exact aL (hs:=[.run 1,.aJ,.run 1,.call (.bool false) a,.run 1,.aJ,.run 1,.call (.bool false) b,.run 1,.aJ,.run 1,.call (.bool false) c,.run 1,.aJ,.run 1,.call (.bool false) g,.run 1,.aJ,.run 1,.call (.bool false) m,.run 1,.aJ,.run 1,.call (.tuple []) J8,.run 1,.bM AV.undef K0,.val (aG K4 K5 K6 K7 K8 K9 L0 L1 L2 L3 L4 L5 L6 L7 L8 L9 M0 M1 M2 M3 M4 M5 M6 M7 M8 M9 N0 N1 N2 N3 N4)]) (by kernel_rfl) (aK K2<|aK (aP K1)<|aK (bO (n+24004) J9) q9036) (by kernel_rfl) (by kernel_rfl)
noncomputable def aV (R:Nat)(d:List UInt8)(b:AV)(a:St):Option (List UInt8×AV×St):=
 (AQ b).bind fun _=>
 (storeAt C0.P (St.push a (.cells 46 true [(.str []),AV.aB])) 46 (.ref (St.next a) 0) (.agg [(.str d),b])).bind fun c=>
 (loadAt C0.P c 46 (.ref (St.next a) 0)).bind fun e=>
 (dF e).bind fun(f,g)=>
 some (f,g,c)
theorem aX {R:Nat}(n:Nat){a:List UInt8}{b:AV}{c:St}{r:List UInt8×AV×St}(h:aV R a b c=some r):
 b7 (aR C0 cK R (n+1)) false 18 [(.str a),b] c (.agg [.str r.1,r.2.1]) r.2.2:=by
 revert h;unfold aV;refine aA fun _o d=>?_;refine aA fun e f=>?_;refine aA fun l g=>?_;refine aA fun o i=>?_;obtain⟨j,k⟩:=o;obtain rfl:=cL i;intro h;obtain rfl:=cB h;exact aL (hs:=[.run 3,.JY [[(.str a)],[b]],.bM AV.undef e,.val (dJ j k)]) (by kernel_rfl) (aK g<|aK (aP f)<|aK (nH (rfl:AV.cells (.str a)=[(.str a)]) (nH (rE d) (zA))) gD) (by kernel_rfl) (by kernel_rfl)
noncomputable def nY (R:Nat)(a:Int)(b:Int)(c:St):Option (List UInt8×St):=
 (Om R a b c).bind fun(d,e)=>
 some (d,e)
theorem AU {R:Nat}(n:Nat){a:Int}{b:Int}{c:St}{r:List UInt8×St}(h:nY R a b c=some r):
 b7 (aR C0 cK R (n+2)) false 50 [(.int .i64 a),(.int .i64 b)] c (.str r.1) r.2:=by
 revert h;unfold nY;refine aA fun o d=>?_;obtain⟨e,f⟩:=o;intro h;obtain rfl:=cB h;exact aL (hs:=[.run 3,.call (.str e) f,.run 1]) (by kernel_rfl) (aK (M3 n d) gD) (by kernel_rfl) (by kernel_rfl)
noncomputable def j7 (R:Nat)(j:Int)(k:Bool)(l:Int)(m:List UInt8)(n:AV)(o:AV)(p:St):Option (List UInt8×AV×St):=
 (qP 29 (.agg [(.int .i64 j),(.bool k),(.int .i64 l),(.str m),n,o]) p).bind fun(b,a)=>
 (shift b 0).bind fun q=>
 (loadAt C0.P (St.push a (.cells 46 true [(.str []),AV.aB])) 3 q).bind fun r=>
 (eP .i64 r).bind fun c=>
 if(c=0) then
  (aV R [78,85,76,76] AV.aB (St.push a (.cells 46 true [(.str []),AV.aB]))).bind fun(s,t,u)=>
  (storeAt C0.P u 46 (.ref (St.next a) 0) (.agg [(.str s),t])).bind fun d=>
  (loadAt C0.P d 46 (.ref (St.next a) 0)).bind fun v=>
  (dF v).bind fun(w,x)=>
  some (w,x,d)
 else
  if(c=1) then
   (shift b 1).bind fun y=>
   (loadAt C0.P (St.push a (.cells 46 true [(.str []),AV.aB])) 4 y).bind fun z=>
   (rO z).bind fun A=>
   if A=true then
    (aV R [84,82,85,69] AV.aB (St.push a (.cells 46 true [(.str []),AV.aB]))).bind fun(B,C,D)=>
    (storeAt C0.P D 46 (.ref (St.next a) 0) (.agg [(.str B),C])).bind fun e=>
    (loadAt C0.P e 46 (.ref (St.next a) 0)).bind fun E=>
    (dF E).bind fun(F,G)=>
    some (F,G,e)
   else
    (aV R [70,65,76,83,69] AV.aB (St.push a (.cells 46 true [(.str []),AV.aB]))).bind fun(H,I,J)=>
    (storeAt C0.P J 46 (.ref (St.next a) 0) (.agg [(.str H),I])).bind fun f=>
    (loadAt C0.P f 46 (.ref (St.next a) 0)).bind fun K=>
    (dF K).bind fun(L,M)=>
    some (L,M,f)
  else
   if(c=2) then
    (shift b 2).bind fun N=>
    (loadAt C0.P (St.push a (.cells 46 true [(.str []),AV.aB])) 2 N).bind fun O=>
    (eP .i64 O).bind fun Q=>
    (nY R Q 10 (St.push a (.cells 46 true [(.str []),AV.aB]))).bind fun(S,T)=>
    (oC [78,85,77,32] S).bind fun U=>
    (aV R U AV.aB T).bind fun(V,W,X)=>
    (storeAt C0.P X 46 (.ref (St.next a) 0) (.agg [(.str V),W])).bind fun g=>
    (loadAt C0.P g 46 (.ref (St.next a) 0)).bind fun Y=>
    (dF Y).bind fun(Z,a0)=>
    some (Z,a0,g)
   else
    if(c=3) then
     (shift b 3).bind fun a1=>
     (loadAt C0.P (St.push a (.cells 46 true [(.str []),AV.aB])) 9 a1).bind fun a2=>
     (iZ a2).bind fun a3=>
     (oC [83,84,82,32] a3).bind fun a4=>
     (aV R a4 AV.aB (St.push a (.cells 46 true [(.str []),AV.aB]))).bind fun(a5,a6,a7)=>
     (storeAt C0.P a7 46 (.ref (St.next a) 0) (.agg [(.str a5),a6])).bind fun h=>
     (loadAt C0.P h 46 (.ref (St.next a) 0)).bind fun a8=>
     (dF a8).bind fun(a9,b0)=>
     some (a9,b0,h)
    else
     (shift b 3).bind fun b1=>
     (loadAt C0.P (St.push a (.cells 46 true [(.str []),AV.aB])) 9 b1).bind fun b2=>
     (iZ b2).bind fun b3=>
     (oC [72,69,88,32] b3).bind fun b4=>
     (aV R b4 AV.aB (St.push a (.cells 46 true [(.str []),AV.aB]))).bind fun(b5,b6,b7)=>
     (storeAt C0.P b7 46 (.ref (St.next a) 0) (.agg [(.str b5),b6])).bind fun i=>
     (loadAt C0.P i 46 (.ref (St.next a) 0)).bind fun b8=>
     (dF b8).bind fun(b9,c0)=>
     some (b9,c0,i)
theorem vT {R : Nat} (n : Nat) {k : Int} {l : Bool} {m : Int} {p : List UInt8} {q : AV} {s : AV} {t : St} {r : List UInt8 × AV × St} (h : j7 R k l m p q s t = some r):
 b7 (aR C0 cK R (n+3)) false 36 [(.agg [(.int .i64 k),(.bool l),(.int .i64 m),(.str p),q,s])] t (.agg [.str r.1,r.2.1]) r.2.2:=by
 revert h;unfold j7;refine aA fun o x=>?_;obtain⟨a,b⟩:=o;refine aA fun c y=>?_;refine aA fun g2 z=>?_;refine aA fun d A=>?_;obtain rfl:=cA A;have q9037:=aK z<|aK y<|aK (xK x) gD
 refine bD (fun g=>?_) (fun g=>?_)
 ·refine aA fun o B=>?_;obtain⟨C,D,E⟩:=o;refine aA fun F G=>?_;refine aA fun g3 H=>?_;refine aA fun o I=>?_;obtain⟨J,K⟩:=o;obtain rfl:=cL I;intro h;obtain rfl:=cB h;exact aL (hs:=[.bM a b,.run 1,.val c,.val (.int .i64 d),.aJ,.dec true,.run 1,.aJ,.call (dJ C D) E,.bM AV.undef F,.val (dJ J K)]) (by kernel_rfl) (aK H<|aK (aP G)<|aK (aX (n+1) B)<|aK (gA g) q9037) (by kernel_rfl) (by kernel_rfl)
 ·have q9038:=aK (eW g) q9037
  refine bD (fun e=>?_) (fun e=>?_)
  ·refine aA fun u v=>?_;refine aA fun g4 w=>?_;refine aA fun g5 L=>?_;obtain rfl:=uN L;refine bD (fun i=>?_) (fun i=>?_)
   ·subst i;refine aA fun o M=>?_;obtain⟨N,O,P⟩:=o;refine aA fun Q S=>?_;refine aA fun g6 T=>?_;refine aA fun o U=>?_;obtain⟨V,W⟩:=o;obtain rfl:=cL U;intro h;obtain rfl:=cB h;exact aL (hs:=[.bM a b,.run 1,.val c,.val (.int .i64 d),.aJ,.dec false,.run 1,.aJ,.dec true,.run 1,.aJ,.val u,.val (.bool true),.aJ,.call (dJ N O) P,.bM AV.undef Q,.val (dJ V W)]) (by kernel_rfl) (aK T<|aK (aP S)<|aK (aX (n+1) M)<|aK w<|aK v<|aK (gA e) q9038) (by kernel_rfl) (by kernel_rfl)
   ·obtain rfl:=bF i;refine aA fun o X=>?_;obtain⟨Y,Z,a0⟩:=o;refine aA fun a1 a2=>?_;refine aA fun g7 a3=>?_;refine aA fun o a4=>?_;obtain⟨a5,a6⟩:=o;obtain rfl:=cL a4;intro h;obtain rfl:=cB h;exact aL (hs:=[.bM a b,.run 1,.val c,.val (.int .i64 d),.aJ,.dec false,.run 1,.aJ,.dec true,.run 1,.aJ,.val u,.val (.bool false),.aJ,.call (dJ Y Z) a0,.bM AV.undef a1,.val (dJ a5 a6)]) (by kernel_rfl) (aK a3<|aK (aP a2)<|aK (aX (n+1) X)<|aK w<|aK v<|aK (gA e) q9038) (by kernel_rfl) (by kernel_rfl)
  ·refine bD (fun f=>?_) (fun f=>?_)
   ·refine aA fun a7 a8=>?_;refine aA fun g8 a9=>?_;refine aA fun b0 b1=>?_;obtain rfl:=cA b1;refine aA fun o b2=>?_;obtain⟨b3,b4⟩:=o;refine aA fun b5 b6=>?_;refine aA fun o b8=>?_;obtain⟨b9,c0,c1⟩:=o;refine aA fun c2 c3=>?_;refine aA fun g9 c4=>?_;refine aA fun o c5=>?_;obtain⟨c6,c7⟩:=o;obtain rfl:=cL c5;intro h;obtain rfl:=cB h;exact aL (hs:=[.bM a b,.run 1,.val c,.val (.int .i64 d),.aJ,.dec false,.run 1,.aJ,.dec false,.run 1,.aJ,.dec true,.run 1,.aJ,.val a7,.val (.int .i64 b0),.call (.str b3) b4,.val (.str b5),.call (dJ b9 c0) c1,.bM AV.undef c2,.val (dJ c6 c7)]) (by kernel_rfl) (aK c4<|aK (aP c3)<|aK (aX (n+1) b8)<|aK (jF b6)<|aK (AU n b2)<|aK a9<|aK a8<|aK (gA f)<|aK (eW e) q9038) (by kernel_rfl) (by kernel_rfl)
   ·refine bD (fun j=>?_) (fun j=>?_)
    ·refine aA fun c8 c9=>?_;refine aA fun h0 d0=>?_;refine aA fun d1 d2=>?_;obtain rfl:=dY d2;refine aA fun d3 d4=>?_;refine aA fun o d5=>?_;obtain⟨d6,d7,d8⟩:=o;refine aA fun d9 e0=>?_;refine aA fun h1 e1=>?_;refine aA fun o e2=>?_;obtain⟨e3,e4⟩:=o;obtain rfl:=cL e2;intro h;obtain rfl:=cB h;exact aL (hs:=[.bM a b,.run 1,.val c,.val (.int .i64 d),.aJ,.dec false,.run 1,.aJ,.dec false,.run 1,.aJ,.dec false,.run 1,.aJ,.dec true,.run 1,.aJ,.val c8,.val (.str d1),.val (.str d3),.call (dJ d6 d7) d8,.bM AV.undef d9,.val (dJ e3 e4)]) (by kernel_rfl) (aK e1<|aK (aP e0)<|aK (aX (n+1) d5)<|aK (jF d4)<|aK d0<|aK c9<|aK (gA j)<|aK (eW f)<|aK (eW e) q9038) (by kernel_rfl) (by kernel_rfl)
    ·refine aA fun e5 e6=>?_;refine aA fun h2 e7=>?_;refine aA fun e8 e9=>?_;obtain rfl:=dY e9;refine aA fun f0 f1=>?_;refine aA fun o f2=>?_;obtain⟨f3,f4,f5⟩:=o;refine aA fun f6 f7=>?_;refine aA fun h3 f8=>?_;refine aA fun o f9=>?_;obtain⟨g0,g1⟩:=o;obtain rfl:=cL f9;intro h;obtain rfl:=cB h;exact aL (hs:=[.bM a b,.run 1,.val c,.val (.int .i64 d),.aJ,.dec false,.run 1,.aJ,.dec false,.run 1,.aJ,.dec false,.run 1,.aJ,.dec false,.run 1,.aJ,.val e5,.val (.str e8),.val (.str f0),.call (dJ f3 f4) f5,.bM AV.undef f6,.val (dJ g0 g1)]) (by kernel_rfl) (aK f8<|aK (aP f7)<|aK (aX (n+1) f2)<|aK (jF f1)<|aK e7<|aK e6<|aK (eW j)<|aK (eW f)<|aK (eW e) q9038) (by kernel_rfl) (by kernel_rfl)
structure xT where
 n:Nat
 f19:Int→List UInt8→Int→Bool→Int→List UInt8→AV→AV→AV→AV→St→Option (List UInt8×AV×St)
def xT.ok (R:xT)(n:Nat):Prop:=(∀ m,n≤m→ ∀(a0:Int) (a1:List UInt8) (a2:Int) (a3:Bool) (a4:Int) (a5:List UInt8) (a6:AV) (a7:AV) (a8:AV) (a9:AV) (st:St) (r:List UInt8×AV×St),R.f19 a0 a1 a2 a3 a4 a5 a6 a7 a8 a9 st=some r→b7 (aR C0 cK R.n m) false 19 [(.agg [.int .i64 a0,.str a1,.int .i64 a2,.bool a3,.int .i64 a4,.str a5,a6,a7,a8,a9])] st (.agg [.str r.1,r.2.1]) r.2.2)
theorem xT.ok.PO {R:xT}{n:Nat}(h:R.ok n):(∀ m,n≤m→ ∀(a0:Int) (a1:List UInt8) (a2:Int) (a3:Bool) (a4:Int) (a5:List UInt8) (a6:AV) (a7:AV) (a8:AV) (a9:AV) (st:St) (r:List UInt8×AV×St),R.f19 a0 a1 a2 a3 a4 a5 a6 a7 a8 a9 st=some r→b7 (aR C0 cK R.n m) false 19 [(.agg [.int .i64 a0,.str a1,.int .i64 a2,.bool a3,.int .i64 a4,.str a5,a6,a7,a8,a9])] st (.agg [.str r.1,r.2.1]) r.2.2):=h
noncomputable def fR (R:xT)(c:AV)(u:Nat)(v:AV)(d:Int)(b:Nat)(a:St):Option (St):=
 (shift c 9).bind fun e=>
 (loadAt C0.P a 22 e).bind fun f=>
 (cV C0.P 22 f (.int .i64 d)).bind fun g=>
 (loadAt C0.P a 9 g).bind fun h=>
 (iZ h).bind fun i=>
 (oC [65,83,32] i).bind fun j=>
 (loadAt C0.P a 46 (.ref b 0)).bind fun k=>
 (dF k).bind fun(l,m)=>
 (eK (aU C0.P (C0.bU 19) 44 1 [(0,(.agg [(.str l),m]))]) a).bind fun(o,p)=>
 (aV R.n j o p).bind fun(q,r,s)=>
 (storeAt C0.P s 46 (.ref b 0) (.agg [(.str q),r])).bind fun t=>
 some t
theorem oZ {R:xT}(n:Nat)(hR:R.ok n){a:AV}{b:Nat}{c:AV}{d:Int}{e:Nat}{f:St}{r:St}(h:fR R a b c d e f=some r):
 cM 80 (bN C0 (aR C0 cK R.n (n+3)) 19 R.n none (aQ C0.P 19 [1,1,0,1,0,0,1,0,0,1,0,1])) (bG (aQ C0.P 19 [1,1,0,1,0,0,1,0,0,1,0,1])) [(1,a),(2,(.ref b 0)),(3,c),(4,(.int .i64 d)),(5,(.ref e 0)),(29,(.bool true))] f .normal [] r:=by
 revert h;unfold fR;refine aA fun g i=>?_;refine aA fun j k=>?_;refine aA fun l m=>?_;refine aA fun I p=>?_;refine aA fun q s=>?_;obtain rfl:=dY s;refine aA fun t u=>?_;refine aA fun J v=>?_;refine aA fun o w=>?_;obtain⟨x,y⟩:=o;obtain rfl:=cL w;refine aA fun o z=>?_;obtain⟨A,B⟩:=o;refine aA fun o C=>?_;obtain⟨D,E,F⟩:=o;refine aA fun G H=>?_;intro h;obtain rfl:=cB h;exact aO (hs:=[.aJ,.val g,.val j,.run 1,.val l,.val (.str q),.val (.str t),.val (dJ x y),.bM A B,.call (dJ D E) F,.bM AV.undef G]) (want:=[]) (by kernel_rfl) (aK (aP H)<|aK (aX (n+2) C)<|aK z<|aK v<|aK (jF u)<|aK p<|aK m<|aK k<|aK i gD)
noncomputable def dI (R:xT)(a:AV)(b:Nat)(c:AV)(d:Int)(e:Nat):Option (Unit):=
 some ()
theorem kE {R:xT}(n:Nat)(hR:R.ok n){a:AV}{b:Nat}{c:AV}{d:Int}{e:Nat}(f:St){r:Unit}(h:dI R a b c d e=some r):
 cM 80 (bN C0 (aR C0 cK R.n (n+3)) 19 R.n none (aQ C0.P 19 [1,1,0,1,0,0,1,0,0,1,0,1])) (bG (aQ C0.P 19 [1,1,0,1,0,0,1,0,0,1,0,1])) [(1,a),(2,(.ref b 0)),(3,c),(4,(.int .i64 d)),(5,(.ref e 0)),(29,(.bool false))] f .normal [] f:=by
 revert h;unfold dI;intro h;obtain rfl:=cB h;exact aO (hs:=[.aJ]) (want:=[]) (by kernel_rfl) .nil
noncomputable def iF (R:xT)(c:AV)(f:Nat)(d:AV)(e:Int)(g:St):Option (AV×St):=
 (shift c 8).bind fun i=>
 (loadAt C0.P g 30 i).bind fun j=>
 (cV C0.P 30 j (.int .i64 e)).bind fun k=>
 (loadAt C0.P g 32 k).bind fun l=>
 (aI l).bind fun(m,n,o,p,q,r,s,t,u,v)=>
 (R.f19 m n o p q r s t u v g).bind fun(w,x,a)=>
 (storeAt C0.P (St.push a (.cells 46 true [(.str []),AV.aB])) 46 (.ref (St.next a) 0) (.agg [(.str w),x])).bind fun b=>
 (shift c 0).bind fun y=>
 (loadAt C0.P b 3 y).bind fun z=>
 (eP .i64 z).bind fun A=>
 if(A=8) then
  (shift c 9).bind fun B=>
  (loadAt C0.P b 22 B).bind fun C=>
  (lenOf C).bind fun n4446=>
  if(e<(n4446:Int)) then
   (fR R c f d e (St.next a) b).bind fun h=>
   (loadAt C0.P h 46 (.ref (St.next a) 0)).bind fun D=>
   (dF D).bind fun(E,F)=>
   (eK (aU C0.P (C0.bU 19) 44 1 [(0,(.agg [(.str E),F]))]) h).bind fun(G,H)=>
   (bW C0.P (C0.bU 19) H #[44,44] d G).bind fun(I,J)=>
   some (I,J)
  else
   (dI R c f d e (St.next a)).bind fun _=>
   (loadAt C0.P b 46 (.ref (St.next a) 0)).bind fun K=>
   (dF K).bind fun(L,M)=>
   (eK (aU C0.P (C0.bU 19) 44 1 [(0,(.agg [(.str L),M]))]) b).bind fun(N,O)=>
   (bW C0.P (C0.bU 19) O #[44,44] d N).bind fun(Q,S)=>
   some (Q,S)
 else
  (dI R c f d e (St.next a)).bind fun _=>
  (loadAt C0.P b 46 (.ref (St.next a) 0)).bind fun T=>
  (dF T).bind fun(U,V)=>
  (eK (aU C0.P (C0.bU 19) 44 1 [(0,(.agg [(.str U),V]))]) b).bind fun(W,X)=>
  (bW C0.P (C0.bU 19) X #[44,44] d W).bind fun(Y,Z)=>
  some (Y,Z)
theorem qX {R:xT}(n:Nat)(hR:R.ok n){G:AV}{H:Nat}{I:AV}{J:Int}{p:St}{r:AV×St}(h:iF R G H I J p=some r):
 cM 80 (bN C0 (aR C0 cK R.n (n+3)) 19 R.n none (aQ C0.P 19 [1,1,0,1,0,0,1,0])) (bG (aQ C0.P 19 [1,1,0,1,0,0,1,0])) [(1,G),(2,(.ref H 0)),(3,I),(4,(.int .i64 J))] p .normal [(3,r.1)] r.2:=by
 revert h;unfold iF;refine aA fun s Q=>?_;refine aA fun u S=>?_;refine aA fun v T=>?_;refine aA fun d1 U=>?_;refine aA fun o V=>?_;obtain⟨b,c,d,f,g,i,j,k,l,m⟩:=o;obtain rfl:=aH V;refine aA fun o w=>?_;obtain⟨x,y,z⟩:=o;refine aA fun a A=>?_;refine aA fun B C=>?_;refine aA fun d2 D=>?_;refine aA fun E W=>?_;obtain rfl:=cA W;have q9039:=aK U<|aK T<|aK S<|aK Q gD
 refine bD (fun q=>?_) (fun q=>?_)
 ·refine aA fun K L=>?_;refine aA fun M N=>?_;refine aA fun n4446 O=>?_;refine bD (fun F=>?_) (fun F=>?_)
  ·refine aA fun X Y=>?_;refine aA fun d3 Z=>?_;refine aA fun o a0=>?_;obtain⟨a1,a2⟩:=o;obtain rfl:=cL a0;refine aA fun o a3=>?_;obtain⟨a4,a5⟩:=o;refine aA fun o a6=>?_;obtain⟨a7,a8⟩:=o;intro h;obtain rfl:=cB h;exact aO (hs:=[.aJ,.val s,.val u,.run 1,.val v,.val (aN b c d f g i j k l m),.call (dJ x y) z,.run 1,.bM AV.undef a,.val B,.val (.int .i64 E),.dec true,.run 2,.val K,.val M,.val (.int .i64 (n4446:Int)),.dec true,.run 1,.eE [1,2,3,4,5,29] .normal [] X,.run 1,.val (dJ a1 a2),.bM a4 a5,.bM a7 a8,.run 1]) (want:=[3]) (by kernel_rfl) (aK a6<|aK a3<|aK Z<|aK (oZ n hR Y)<|aK (decide_eq_true F)<|aK (fD (P:=C0.P) (t:=22) (e:=9) (by kernel_rfl) O)<|aK N<|aK L<|aK (gA q)<|aK D<|aK C<|aK (aP A)<|aK (hR.PO (n+3) (by omega) b c d f g i j k l m p _ w) q9039)
  ·refine aA fun _o a9=>?_;refine aA fun d4 b0=>?_;refine aA fun o b1=>?_;obtain⟨b2,b3⟩:=o;obtain rfl:=cL b1;refine aA fun o b4=>?_;obtain⟨b5,b6⟩:=o;refine aA fun o b7=>?_;obtain⟨b8,b9⟩:=o;intro h;obtain rfl:=cB h;exact aO (hs:=[.aJ,.val s,.val u,.run 1,.val v,.val (aN b c d f g i j k l m),.call (dJ x y) z,.run 1,.bM AV.undef a,.val B,.val (.int .i64 E),.dec true,.run 2,.val K,.val M,.val (.int .i64 (n4446:Int)),.dec false,.run 1,.eE [1,2,3,4,5,29] .normal [] a,.run 1,.val (dJ b2 b3),.bM b5 b6,.bM b8 b9,.run 1]) (want:=[3]) (by kernel_rfl) (aK b7<|aK b4<|aK b0<|aK (kE n hR a a9)<|aK (decide_eq_false F)<|aK (fD (P:=C0.P) (t:=22) (e:=9) (by kernel_rfl) O)<|aK N<|aK L<|aK (gA q)<|aK D<|aK C<|aK (aP A)<|aK (hR.PO (n+3) (by omega) b c d f g i j k l m p _ w) q9039)
 ·refine aA fun _o c0=>?_;refine aA fun d5 c1=>?_;refine aA fun o c2=>?_;obtain⟨c3,c4⟩:=o;obtain rfl:=cL c2;refine aA fun o c5=>?_;obtain⟨c6,c7⟩:=o;refine aA fun o c8=>?_;obtain⟨c9,d0⟩:=o;intro h;obtain rfl:=cB h;exact aO (hs:=[.aJ,.val s,.val u,.run 1,.val v,.val (aN b c d f g i j k l m),.call (dJ x y) z,.run 1,.bM AV.undef a,.val B,.val (.int .i64 E),.dec false,.run 2,.eE [1,2,3,4,5,29] .normal [] a,.run 1,.val (dJ c3 c4),.bM c6 c7,.bM c9 d0,.run 1]) (want:=[3]) (by kernel_rfl) (aK c8<|aK c5<|aK c1<|aK (kE n hR a c0)<|aK (eW q)<|aK D<|aK C<|aK (aP A)<|aK (hR.PO (n+3) (by omega) b c d f g i j k l m p _ w) q9039)
noncomputable def eC (R:xT)(a:AV)(d:Nat):Nat→AV→Int→St→Option ((AV×St))
 | 0,_,_,_=>none
 | r + 1, e, b, c =>
   (shift a 8).bind fun f=>
   (loadAt C0.P c 30 f).bind fun g=>
   (lenOf g).bind fun n4498=>
   if(b<(n4498:Int)) then
    (iF R a d e b c).bind fun(h,i)=>
    eC R a d r h (IntKind.wrap .i64 (b+1)) i
   else
    some (e,c)
noncomputable def kO (o:(AV×St)):cZ×List (Nat×AV)×St:=match o with
 | (a0,a1)=>((.exit 0),[(3,a0)],a1)
theorem sH (R:xT)(n:Nat)(hR:R.ok n)(f:AV)(g:Nat):∀(r:Nat) (b:AV) (a:Int) (c:St) (o:(AV×St)),eC R f g r b a c=some o →
 cM 80 (lO (fun fr k=>bN C0 (aR C0 cK R.n (n+3)) 19 R.n none (aQ C0.P 19 [1,1,0,1,0,0]) fr k) r) (bG (aQ C0.P 19 [1,1,0,1,0,0])) [(1,f),(2,(.ref g 0)),(3,b),(4,(.int .i64 a))] c (kO o).1 (kO o).2.1 (kO o).2.2:=by
 intro r
 induction r with
 | zero=>intro b a c o h; exact nomatch h
 | succ r ih =>
   intro b a c o
   unfold eC;refine aA fun i j=>?_;refine aA fun l m=>?_;refine aA fun n4498 p=>?_;refine bD (fun d=>?_) (fun d=>?_)
   ·refine aA fun o u=>?_;obtain⟨q,s⟩:=o;intro h;exact dP (aO (hs:=[.run 1,.val i,.val l,.val (.int .i64 (n4498:Int)),.dec true,.aJ,.rX [1,2,3,4] .normal [(3,q)] s,.run 3]) (want:=[1,2,3,4]) (by kernel_rfl) (.cons (qX n hR u)<|.cons (decide_eq_true d)<|.cons (fD (P:=C0.P) (t:=30) (e:=32) (by kernel_rfl) p)<|.cons m<|.cons j .nil)) (ih q (IntKind.wrap .i64 (a+1)) s _ h)
   ·intro h;obtain rfl:=cB h;exact cF (aO (hs:=[.run 1,.val i,.val l,.val (.int .i64 (n4498:Int)),.dec false,.aJ]) (want:=[3]) (by kernel_rfl) (.cons (decide_eq_false d)<|.cons (fD (P:=C0.P) (t:=30) (e:=32) (by kernel_rfl) p)<|.cons m<|.cons j .nil)) (by kernel_rfl)
noncomputable def jI (R:xT)(a:AV)(b:Nat)(c:AV)(d:St):Option (AV×St):=
 (eC R a b R.n c 0 d).bind fun(e,f)=>
 some (e,f)
theorem tJ {R:xT}(n:Nat)(hR:R.ok n){a:AV}{b:Nat}{c:AV}{d:St}{r:AV×St}(h:jI R a b c d=some r):
 cM 80 (bN C0 (aR C0 cK R.n (n+3)) 19 R.n none (aQ C0.P 19 [1,1,0,1])) (bG (aQ C0.P 19 [1,1,0,1])) [(1,a),(2,(.ref b 0)),(3,c),(4,(.int .i64 0))] d .normal [(3,r.1)] r.2:=by
 revert h;unfold jI;refine aA fun o e=>?_;obtain⟨f,g⟩:=o;intro h;obtain rfl:=cB h;exact aO (hs:=[.aJ,.abs [1,2,3,4] (.exit 0) [(3,f)] g]) (want:=[3]) (by kernel_rfl) (aK (cW (sH R n hR a b R.n c 0 d _ e)) gD)
noncomputable def jA (R:xT)(o:Int)(p:List UInt8)(q:Int)(r:Bool)(s:Int)(t:List UInt8)(u:AV)(v:AV)(w:AV)(x:AV)(y:St):Option (List UInt8×AV×St):=
 (qP 32 (.agg [(.int .i64 o),(.str p),(.int .i64 q),(.bool r),(.int .i64 s),(.str t),u,v,w,x]) y).bind fun(e,a)=>
 (eK (aU C0.P (C0.bU 19) 44 0 []) (St.push a (.cells 46 true [(.str []),AV.aB]))).bind fun(z,A)=>
 (jI R e (St.next a) z A).bind fun(d,b)=>
 (shift e 0).bind fun B=>
 (loadAt C0.P b 3 B).bind fun C=>
 (eP .i64 C).bind fun c=>
 if(c=1) then
  (shift e 2).bind fun D=>
  (loadAt C0.P b 29 D).bind fun E=>
  (fE E).bind fun(F,G,H,I,J,K)=>
  (j7 R.n F G H I J K b).bind fun(L,M,N)=>
  (storeAt C0.P N 46 (.ref (St.next a) 0) (.agg [(.str L),M])).bind fun f=>
  (loadAt C0.P f 46 (.ref (St.next a) 0)).bind fun O=>
  (dF O).bind fun(Q,S)=>
  some (Q,S,f)
 else
  if(c=2) then
   (shift e 1).bind fun T=>
   (loadAt C0.P b 9 T).bind fun U=>
   (iZ U).bind fun V=>
   (oC [70,73,69,76,68,32] V).bind fun W=>
   (aV R.n W AV.aB b).bind fun(X,Y,Z)=>
   (storeAt C0.P Z 46 (.ref (St.next a) 0) (.agg [(.str X),Y])).bind fun g=>
   (loadAt C0.P g 46 (.ref (St.next a) 0)).bind fun a0=>
   (dF a0).bind fun(a1,a2)=>
   some (a1,a2,g)
  else
   if(c=3) then
    (aV R.n [78,69,71] d b).bind fun(a3,a4,a5)=>
    (storeAt C0.P a5 46 (.ref (St.next a) 0) (.agg [(.str a3),a4])).bind fun h=>
    (loadAt C0.P h 46 (.ref (St.next a) 0)).bind fun a6=>
    (dF a6).bind fun(a7,a8)=>
    some (a7,a8,h)
   else
    if(c=4) then
     (aV R.n [78,79,84] d b).bind fun(a9,b0,b1)=>
     (storeAt C0.P b1 46 (.ref (St.next a) 0) (.agg [(.str a9),b0])).bind fun i=>
     (loadAt C0.P i 46 (.ref (St.next a) 0)).bind fun b2=>
     (dF b2).bind fun(b3,b4)=>
     some (b3,b4,i)
    else
     if(c=5) then
      (aV R.n [73,83,78,85,76,76] d b).bind fun(b5,b6,b7)=>
      (storeAt C0.P b7 46 (.ref (St.next a) 0) (.agg [(.str b5),b6])).bind fun j=>
      (loadAt C0.P j 46 (.ref (St.next a) 0)).bind fun b8=>
      (dF b8).bind fun(b9,c0)=>
      some (b9,c0,j)
     else
      if(c=6) then
       (shift e 1).bind fun c1=>
       (loadAt C0.P b 9 c1).bind fun c2=>
       (iZ c2).bind fun c3=>
       (aV R.n c3 d b).bind fun(c4,c5,c6)=>
       (storeAt C0.P c6 46 (.ref (St.next a) 0) (.agg [(.str c4),c5])).bind fun k=>
       (loadAt C0.P k 46 (.ref (St.next a) 0)).bind fun c7=>
       (dF c7).bind fun(c8,c9)=>
       some (c8,c9,k)
      else
       if(c=7) then
        (aV R.n [76,73,83,84] d b).bind fun(d0,d1,d2)=>
        (storeAt C0.P d2 46 (.ref (St.next a) 0) (.agg [(.str d0),d1])).bind fun l=>
        (loadAt C0.P l 46 (.ref (St.next a) 0)).bind fun d3=>
        (dF d3).bind fun(d4,d5)=>
        some (d4,d5,l)
       else
        (aV R.n [83,84,82,85,67,84] d b).bind fun(d6,d7,d8)=>
        (storeAt C0.P d8 46 (.ref (St.next a) 0) (.agg [(.str d6),d7])).bind fun m=>
        (loadAt C0.P m 46 (.ref (St.next a) 0)).bind fun d9=>
        (dF d9).bind fun(e0,e1)=>
        some (e0,e1,m)
theorem qO {R : xT} (n : Nat) (hR : R.ok n) {t : Int} {u : List UInt8} {v : Int} {w : Bool} {x : Int} {y : List UInt8} {z : AV} {A : AV} {B : AV} {C : AV} {D : St} {r : List UInt8 × AV × St} (h : jA R t u v w x y z A B C D = some r):
 b7 (aR C0 cK R.n (n+4)) false 19 [(.agg [(.int .i64 t),(.str u),(.int .i64 v),(.bool w),(.int .i64 x),(.str y),z,A,B,C])] D (.agg [.str r.1,r.2.1]) r.2.2:=by
 revert h;unfold jA;refine aA fun o E=>?_;obtain⟨a,b⟩:=o;refine aA fun o F=>?_;obtain⟨c,d⟩:=o;refine aA fun o G=>?_;obtain⟨e,f⟩:=o;refine aA fun g H=>?_;refine aA fun i9 I=>?_;refine aA fun i J=>?_;obtain rfl:=cA J;have q9040:=aK I<|aK H<|aK (tJ n hR G)<|aK F<|aK (xK E) gD
 refine bD (fun l=>?_) (fun l=>?_)
 ·refine aA fun K L=>?_;refine aA fun j0 M=>?_;refine aA fun o N=>?_;obtain⟨O,P,Q,S,T,U⟩:=o;obtain rfl:=iO N;refine aA fun o V=>?_;obtain⟨W,X,Y⟩:=o;refine aA fun Z a0=>?_;refine aA fun j1 a1=>?_;refine aA fun o a2=>?_;obtain⟨a3,a4⟩:=o;obtain rfl:=cL a2;intro h;obtain rfl:=cB h;exact aL (hs:=[.bM a b,.run 1,.bM c d,.run 2,.rX [1,2,3,4] .normal [(3,e)] f,.val g,.val (.int .i64 i),.aJ,.dec true,.run 1,.aJ,.val K,.val (nS O P Q S T U),.call (dJ W X) Y,.bM AV.undef Z,.val (dJ a3 a4)]) (by kernel_rfl) (aK a1<|aK (aP a0)<|aK (vT n V)<|aK M<|aK L<|aK (gA l) q9040) (by kernel_rfl) (by kernel_rfl)
 ·have q9041:=aK (eW l) q9040
  refine bD (fun m=>?_) (fun m=>?_)
  ·refine aA fun a5 a6=>?_;refine aA fun j2 a7=>?_;refine aA fun a8 a9=>?_;obtain rfl:=dY a9;refine aA fun b0 b1=>?_;refine aA fun o b2=>?_;obtain⟨b3,b4,b5⟩:=o;refine aA fun b6 b8=>?_;refine aA fun j3 b9=>?_;refine aA fun o c0=>?_;obtain⟨c1,c2⟩:=o;obtain rfl:=cL c0;intro h;obtain rfl:=cB h;exact aL (hs:=[.bM a b,.run 1,.bM c d,.run 2,.rX [1,2,3,4] .normal [(3,e)] f,.val g,.val (.int .i64 i),.aJ,.dec false,.run 1,.aJ,.dec true,.run 1,.aJ,.val a5,.val (.str a8),.val (.str b0),.call (dJ b3 b4) b5,.bM AV.undef b6,.val (dJ c1 c2)]) (by kernel_rfl) (aK b9<|aK (aP b8)<|aK (aX (n+2) b2)<|aK (jF b1)<|aK a7<|aK a6<|aK (gA m) q9041) (by kernel_rfl) (by kernel_rfl)
  ·have q9042:=aK (eW m) q9041
   refine bD (fun p=>?_) (fun p=>?_)
   ·refine aA fun o c3=>?_;obtain⟨c4,c5,c6⟩:=o;refine aA fun c7 c8=>?_;refine aA fun j4 c9=>?_;refine aA fun o d0=>?_;obtain⟨d1,d2⟩:=o;obtain rfl:=cL d0;intro h;obtain rfl:=cB h;exact aL (hs:=[.bM a b,.run 1,.bM c d,.run 2,.rX [1,2,3,4] .normal [(3,e)] f,.val g,.val (.int .i64 i),.aJ,.dec false,.run 1,.aJ,.dec false,.run 1,.aJ,.dec true,.run 1,.aJ,.run 1,.call (dJ c4 c5) c6,.bM AV.undef c7,.val (dJ d1 d2)]) (by kernel_rfl) (aK c9<|aK (aP c8)<|aK (aX (n+2) c3)<|aK (gA p) q9042) (by kernel_rfl) (by kernel_rfl)
   ·have q9043:=aK (eW p) q9042
    refine bD (fun j=>?_) (fun j=>?_)
    ·refine aA fun o d3=>?_;obtain⟨d4,d5,d6⟩:=o;refine aA fun d7 d8=>?_;refine aA fun j5 d9=>?_;refine aA fun o e0=>?_;obtain⟨e1,e2⟩:=o;obtain rfl:=cL e0;intro h;obtain rfl:=cB h;exact aL (hs:=[.bM a b,.run 1,.bM c d,.run 2,.rX [1,2,3,4] .normal [(3,e)] f,.val g,.val (.int .i64 i),.aJ,.dec false,.run 1,.aJ,.dec false,.run 1,.aJ,.dec false,.run 1,.aJ,.dec true,.run 1,.aJ,.run 1,.call (dJ d4 d5) d6,.bM AV.undef d7,.val (dJ e1 e2)]) (by kernel_rfl) (aK d9<|aK (aP d8)<|aK (aX (n+2) d3)<|aK (gA j) q9043) (by kernel_rfl) (by kernel_rfl)
    ·refine bD (fun q=>?_) (fun q=>?_)
     ·refine aA fun o e3=>?_;obtain⟨e4,e5,e6⟩:=o;refine aA fun e7 e8=>?_;refine aA fun j6 e9=>?_;refine aA fun o f0=>?_;obtain⟨f1,f2⟩:=o;obtain rfl:=cL f0;intro h;obtain rfl:=cB h;exact aL (hs:=[.bM a b,.run 1,.bM c d,.run 2,.rX [1,2,3,4] .normal [(3,e)] f,.val g,.val (.int .i64 i),.aJ,.dec false,.run 1,.aJ,.dec false,.run 1,.aJ,.dec false,.run 1,.aJ,.dec false,.run 1,.aJ,.dec true,.run 1,.aJ,.run 1,.call (dJ e4 e5) e6,.bM AV.undef e7,.val (dJ f1 f2)]) (by kernel_rfl) (aK e9<|aK (aP e8)<|aK (aX (n+2) e3)<|aK (gA q)<|aK (eW j) q9043) (by kernel_rfl) (by kernel_rfl)
     ·have q9044:=aK (eW q)<|aK (eW j) q9043
      refine bD (fun k=>?_) (fun k=>?_)
      ·refine aA fun f3 f4=>?_;refine aA fun j7 f5=>?_;refine aA fun f6 f7=>?_;obtain rfl:=dY f7;refine aA fun o f8=>?_;obtain⟨f9,g0,g1⟩:=o;refine aA fun g2 g3=>?_;refine aA fun j8 g4=>?_;refine aA fun o g5=>?_;obtain⟨g6,g7⟩:=o;obtain rfl:=cL g5;intro h;obtain rfl:=cB h;exact aL (hs:=[.bM a b,.run 1,.bM c d,.run 2,.rX [1,2,3,4] .normal [(3,e)] f,.val g,.val (.int .i64 i),.aJ,.dec false,.run 1,.aJ,.dec false,.run 1,.aJ,.dec false,.run 1,.aJ,.dec false,.run 1,.aJ,.dec false,.run 1,.aJ,.dec true,.run 1,.aJ,.val f3,.val (.str f6),.run 1,.call (dJ f9 g0) g1,.bM AV.undef g2,.val (dJ g6 g7)]) (by kernel_rfl) (aK g4<|aK (aP g3)<|aK (aX (n+2) f8)<|aK f5<|aK f4<|aK (gA k) q9044) (by kernel_rfl) (by kernel_rfl)
      ·refine bD (fun s=>?_) (fun s=>?_)
       ·refine aA fun o g8=>?_;obtain⟨g9,h0,h1⟩:=o;refine aA fun h2 h3=>?_;refine aA fun j9 h4=>?_;refine aA fun o h5=>?_;obtain⟨h6,h7⟩:=o;obtain rfl:=cL h5;intro h;obtain rfl:=cB h;exact aL (hs:=[.bM a b,.run 1,.bM c d,.run 2,.rX [1,2,3,4] .normal [(3,e)] f,.val g,.val (.int .i64 i),.aJ,.dec false,.run 1,.aJ,.dec false,.run 1,.aJ,.dec false,.run 1,.aJ,.dec false,.run 1,.aJ,.dec false,.run 1,.aJ,.dec false,.run 1,.aJ,.dec true,.run 1,.aJ,.run 1,.call (dJ g9 h0) h1,.bM AV.undef h2,.val (dJ h6 h7)]) (by kernel_rfl) (aK h4<|aK (aP h3)<|aK (aX (n+2) g8)<|aK (gA s)<|aK (eW k) q9044) (by kernel_rfl) (by kernel_rfl)
       ·refine aA fun o h8=>?_;obtain⟨h9,i0,i1⟩:=o;refine aA fun i2 i3=>?_;refine aA fun k0 i4=>?_;refine aA fun o i5=>?_;obtain⟨i6,i7⟩:=o;obtain rfl:=cL i5;intro h;obtain rfl:=cB h;exact aL (hs:=[.bM a b,.run 1,.bM c d,.run 2,.rX [1,2,3,4] .normal [(3,e)] f,.val g,.val (.int .i64 i),.aJ,.dec false,.run 1,.aJ,.dec false,.run 1,.aJ,.dec false,.run 1,.aJ,.dec false,.run 1,.aJ,.dec false,.run 1,.aJ,.dec false,.run 1,.aJ,.dec false,.run 1,.aJ,.run 1,.call (dJ h9 i0) i1,.bM AV.undef i2,.val (dJ i6 i7)]) (by kernel_rfl) (aK i4<|aK (aP i3)<|aK (aX (n+2) h8)<|aK (eW s)<|aK (eW k) q9044) (by kernel_rfl) (by kernel_rfl)
noncomputable def MD (R:Nat):Nat→xT
 | 0=>⟨R,(fun _ _ _ _ _ _ _ _ _ _ _=>none)⟩
 | k+1=>⟨R,(fun a0 a1 a2 a3 a4 a5 a6 a7 a8 a9 st=>jA (MD R k) a0 a1 a2 a3 a4 a5 a6 a7 a8 a9 st)⟩
theorem Fz (R:Nat):∀ k,(MD R k).n=R
 | 0=>rfl
 | _+1=>rfl
theorem JU (R:Nat):∀ k n,4 * k≤n→(MD R k).ok n
 | 0,n,_=>(fun _ _ _ _ _ _ _ _ _ _ _ _ _ _ h=>nomatch h)
 | k + 1, n, hn =>
   fun m hm a0 a1 a2 a3 a4 a5 a6 a7 a8 a9 st r h=>by
    obtain⟨j,rfl⟩:∃ j,m=j+4:=⟨m - 4,by omega⟩
    have:=qO j (JU R k j (by omega)) h
    rw[Fz] at this
    exact this
noncomputable def iQ (R:Nat)(a0:Int)(a1:List UInt8)(a2:Int)(a3:Bool)(a4:Int)(a5:List UInt8)(a6:AV)(a7:AV)(a8:AV)(a9:AV)(st:St):Option (List UInt8×AV×St):=jA (MD R 4000) a0 a1 a2 a3 a4 a5 a6 a7 a8 a9 st
theorem lL {R:Nat}(n:Nat){a0:Int}{a1:List UInt8}{a2:Int}{a3:Bool}{a4:Int}{a5:List UInt8}{a6:AV}{a7:AV}{a8:AV}{a9:AV}{st:St}{r:List UInt8×AV×St}(h:iQ R a0 a1 a2 a3 a4 a5 a6 a7 a8 a9 st=some r):b7 (aR C0 cK R (n+16004)) false 19 [(.agg [.int .i64 a0,.str a1,.int .i64 a2,.bool a3,.int .i64 a4,.str a5,a6,a7,a8,a9])] st (.agg [.str r.1,r.2.1]) r.2.2:=by
 have:=qO (n+16000) (JU R 4000 _ (by omega)) h
 rw[Fz] at this
 exact this
noncomputable def gM (R:Nat)(c:Int)(d:List UInt8)(e:Int)(f:Bool)(g:Int)(h:List UInt8)(i:AV)(j:AV)(k:AV)(l:AV)(m:St):Option (AV×St):=
 (qP 32 (.agg [(.int .i64 c),(.str d),(.int .i64 e),(.bool f),(.int .i64 g),(.str h),i,j,k,l]) m).bind fun(b,a)=>
 (shift b 0).bind fun n=>
 (loadAt C0.P a 3 n).bind fun o=>
 (eP .i64 o).bind fun p=>
 if(p=0) then
  some (AV.aB,a)
 else
  (loadAt C0.P a 32 b).bind fun q=>
  (aI q).bind fun(r,s,t,u,v,w,x,y,z,A)=>
  (iQ R r s t u v w x y z A a).bind fun(B,C,D)=>
  (eK (aU C0.P (C0.bU 20) 44 1 [(0,(.agg [(.str B),C]))]) D).bind fun(E,F)=>
  (aV R [87,72,69,82,69] E F).bind fun(G,H,I)=>
  (eK (aU C0.P (C0.bU 20) 44 1 [(0,(.agg [(.str G),H]))]) I).bind fun(J,K)=>
  some (J,K)
theorem mV {R:Nat}(n:Nat){b:Int}{c:List UInt8}{d:Int}{e:Bool}{f:Int}{g:List UInt8}{i:AV}{j:AV}{k:AV}{l:AV}{m:St}{r:AV×St}(h:gM R b c d e f g i j k l m=some r):
 b7 (aR C0 cK R (n+16005)) false 20 [(.agg [(.int .i64 b),(.str c),(.int .i64 d),(.bool e),(.int .i64 f),(.str g),i,j,k,l])] m r.1 r.2:=by
 revert h;unfold gM;refine aA fun o p=>?_;obtain⟨q,s⟩:=o;refine aA fun t u=>?_;refine aA fun Z v=>?_;refine aA fun w x=>?_;obtain rfl:=cA x;refine bD (fun a=>?_) (fun a=>?_)
 ·intro h;obtain rfl:=cB h;exact aL (hs:=[.bM q s,.run 1,.val t,.val (.int .i64 w),.dec true,.aJ,.run 1]) (by kernel_rfl) (aK (gA a)<|aK v<|aK u<|aK (xK p) gD) (by kernel_rfl) (by kernel_rfl)
 ·refine aA fun a0 y=>?_;refine aA fun o z=>?_;obtain⟨A,B,C,D,E,F,G,H,I,J⟩:=o;obtain rfl:=aH z;refine aA fun o K=>?_;obtain⟨L,M,N⟩:=o;refine aA fun o O=>?_;obtain⟨P,Q⟩:=o;refine aA fun o S=>?_;obtain⟨T,U,V⟩:=o;refine aA fun o W=>?_;obtain⟨X,Y⟩:=o;intro h;obtain rfl:=cB h;exact aL (hs:=[.bM q s,.run 1,.val t,.val (.int .i64 w),.dec false,.aJ,.val (aN A B C D E F G H I J),.call (dJ L M) N,.bM P Q,.call (dJ T U) V,.bM X Y,.run 1]) (by kernel_rfl) (aK W<|aK (aX (n+16003) S)<|aK O<|aK (lL n K)<|aK y<|aK (eW a)<|aK v<|aK u<|aK (xK p) gD) (by kernel_rfl) (by kernel_rfl)
noncomputable def pP (R:Nat)(a:Int)(b:St):Option (List UInt8×St):=
 (Om R a 10 b).bind fun(c,d)=>
 some (c,d)
theorem BH {R:Nat}(n:Nat){a:Int}{b:St}{r:List UInt8×St}(h:pP R a b=some r):
 b7 (aR C0 cK R (n+2)) false 37 [(.int .i64 a)] b (.str r.1) r.2:=by
 revert h;unfold pP;refine aA fun o c=>?_;obtain⟨d,e⟩:=o;intro h;obtain rfl:=cB h;exact aL (hs:=[.run 2,.call (.str d) e,.run 1]) (by kernel_rfl) (aK (M3 n c) gD) (by kernel_rfl) (by kernel_rfl)
noncomputable def strconv_Itoa (R:Nat)(a:Int)(b:St):Option (List UInt8×St):=
 (pP R a b).bind fun(c,d)=>
 some (c,d)
theorem DO {R:Nat}(n:Nat){a:Int}{b:St}{r:List UInt8×St}(h:strconv_Itoa R a b=some r):
 b7 (aR C0 cK R (n+3)) false 21 [(.int .i64 a)] b (.str r.1) r.2:=by
 revert h;unfold strconv_Itoa;refine aA fun o c=>?_;obtain⟨d,e⟩:=o;intro h;obtain rfl:=cB h;exact aL (hs:=[.run 2,.call (.str d) e,.run 1]) (by kernel_rfl) (aK (BH n c) gD) (by kernel_rfl) (by kernel_rfl)
noncomputable def eF (R:Nat)(c:AV)(M:Nat)(i:AV)(d:Int)(a:St):Option (AV×St):=
 (shift c 13).bind fun e=>
 (loadAt C0.P a 22 e).bind fun f=>
 (cV C0.P 22 f (.int .i64 d)).bind fun g=>
 (loadAt C0.P a 9 g).bind fun j=>
 (iZ j).bind fun h=>
 (oC [65,83,32] h).bind fun k=>
 (shift c 14).bind fun l=>
 (loadAt C0.P a 30 l).bind fun m=>
 (cV C0.P 30 m (.int .i64 d)).bind fun n=>
 (loadAt C0.P a 32 n).bind fun o=>
 (aI o).bind fun(p,q,r,s,t,u,v,w,x,y)=>
 (iQ R p q r s t u v w x y a).bind fun(z,A,b)=>
 (loadAt C0.P b 9 g).bind fun B=>
 if AV.beq B (.str h)=true then
  (loadAt C0.P b 22 e).bind fun C=>
  if AV.beq C f=true then
   (eK (aU C0.P (C0.bU 12) 44 1 [(0,(.agg [(.str z),A]))]) b).bind fun(D,E)=>
   (aV R k D E).bind fun(F,G,H)=>
   (eK (aU C0.P (C0.bU 12) 44 1 [(0,(.agg [(.str F),G]))]) H).bind fun(I,J)=>
   (bW C0.P (C0.bU 12) J #[44,44] i I).bind fun(K,L)=>
   some (K,L)
  else
   none
 else
  none
theorem mY {R:Nat}(n:Nat){a:AV}{b:Nat}{c:AV}{d:Int}{e:St}{r:AV×St}(h:eF R a b c d e=some r):
 cM 152 (bN C0 (aR C0 cK R (n+16005)) 12 R none (aQ C0.P 12 [1,1,0,1,0,1,1,1,1,1,1,1,0,0,1,0,0,1,0])) (bG (aQ C0.P 12 [1,1,0,1,0,1,1,1,1,1,1,1,0,0,1,0,0,1,0])) [(1,a),(2,(.ref b 0)),(3,c),(4,(.int .i64 d))] e .normal [(3,r.1)] r.2:=by
 revert h;unfold eF;refine aA fun i j=>?_;refine aA fun k l=>?_;refine aA fun m p=>?_;refine aA fun a9 q=>?_;refine aA fun s t=>?_;obtain rfl:=dY t;refine aA fun u v=>?_;refine aA fun w x=>?_;refine aA fun y z=>?_;refine aA fun A B=>?_;refine aA fun b0 C=>?_;refine aA fun o D=>?_;obtain⟨E,F,G,H,I,J,K,L,M,N⟩:=o;obtain rfl:=aH D;refine aA fun o O=>?_;obtain⟨Q,S,T⟩:=o;refine aA fun b1 U=>?_;refine bD (fun f=>?_) (fun f=>?_)
 ·refine aA fun b2 V=>?_;refine bD (fun g=>?_) (fun g=>?_)
  ·refine aA fun o W=>?_;obtain⟨X,Y⟩:=o;refine aA fun o Z=>?_;obtain⟨a0,a1,a2⟩:=o;refine aA fun o a3=>?_;obtain⟨a4,a5⟩:=o;refine aA fun o a6=>?_;obtain⟨a7,a8⟩:=o;intro h;obtain rfl:=cB h;exact aO (hs:=[.aJ,.run 1,.val i,.val k,.run 1,.val m,.val (.str s),.val (.str u),.val w,.val y,.run 1,.val A,.val (aN E F G H I J K L M N),.call (dJ Q S) T,.bM X Y,.call (dJ a0 a1) a2,.bM a4 a5,.bM a7 a8,.run 1]) (want:=[3]) (by kernel_rfl) (aK a6<|aK a3<|aK (aX (n+16004) Z)<|aK W<|aK (jE U f)<|aK (jE V g)<|aK (lL (n+1) O)<|aK C<|aK B<|aK z<|aK x<|aK (jF v)<|aK q<|aK p<|aK l<|aK j gD)
  ·exact fun h=>nomatch h
 ·exact fun h=>nomatch h
noncomputable def dB (R:Nat)(b:AV)(e:Nat):Nat→AV→Int→St→Option ((AV×St))
 | 0,_,_,_=>none
 | r + 1, d, c, a =>
   (shift b 13).bind fun f=>
   (loadAt C0.P a 22 f).bind fun g=>
   (lenOf g).bind fun n5025=>
   if(c<(n5025:Int)) then
    (shift b 14).bind fun h=>
    (loadAt C0.P a 30 h).bind fun i=>
    (lenOf i).bind fun n5032=>
    if(c<(n5032:Int)) then
     (eF R b e d c a).bind fun(j,k)=>
     dB R b e r j (IntKind.wrap .i64 (c+1)) k
    else
     some (d,a)
   else
    some (d,a)
noncomputable def gE (o:(AV×St)):cZ×List (Nat×AV)×St:=match o with
 | (a0,a1)=>((.exit 1),[(3,a0)],a1)
theorem nT (R n : Nat) (p : AV) (q : Nat) : ∀ (r : Nat) (b : AV) (a : Int) (c : St) (o : (AV × St)), dB R p q r b a c = some o →
 cM 152 (lO (fun fr k=>bN C0 (aR C0 cK R (n+16005)) 12 R none (aQ C0.P 12 [1,1,0,1,0,1,1,1,1,1,1,1,0,0,1,0,0]) fr k) r) (bG (aQ C0.P 12 [1,1,0,1,0,1,1,1,1,1,1,1,0,0,1,0,0])) [(1,p),(2,(.ref q 0)),(3,b),(4,(.int .i64 a))] c (gE o).1 (gE o).2.1 (gE o).2.2:=by
 intro r
 induction r with
 | zero=>intro b a c o h; exact nomatch h
 | succ r ih =>
   intro b a c o
   unfold dB;refine aA fun f g=>?_;refine aA fun i j=>?_;refine aA fun n5025 l=>?_;refine bD (fun d=>?_) (fun d=>?_)
   ·refine aA fun s u=>?_;refine aA fun v w=>?_;refine aA fun n5032 x=>?_;refine bD (fun m=>?_) (fun m=>?_)
    ·refine aA fun o A=>?_;obtain⟨y,z⟩:=o;intro h;exact dP (aO (hs:=[.run 1,.val f,.val i,.val (.int .i64 (n5025:Int)),.dec true,.run 2,.val s,.val v,.val (.int .i64 (n5032:Int)),.dec true,.run 1,.aJ,.rX [1,2,3,4] .normal [(3,y)] z,.run 3]) (want:=[1,2,3,4]) (by kernel_rfl) (.cons (mY n A)<|.cons (decide_eq_true m)<|.cons (fD (P:=C0.P) (t:=30) (e:=32) (by kernel_rfl) x)<|.cons w<|.cons u<|.cons (decide_eq_true d)<|.cons (fD (P:=C0.P) (t:=22) (e:=9) (by kernel_rfl) l)<|.cons j<|.cons g .nil)) (ih y (IntKind.wrap .i64 (a+1)) z _ h)
    ·intro h;obtain rfl:=cB h;exact cF (aO (hs:=[.run 1,.val f,.val i,.val (.int .i64 (n5025:Int)),.dec true,.run 2,.val s,.val v,.val (.int .i64 (n5032:Int)),.dec false,.run 1,.aJ]) (want:=[3]) (by kernel_rfl) (.cons (decide_eq_false m)<|.cons (fD (P:=C0.P) (t:=30) (e:=32) (by kernel_rfl) x)<|.cons w<|.cons u<|.cons (decide_eq_true d)<|.cons (fD (P:=C0.P) (t:=22) (e:=9) (by kernel_rfl) l)<|.cons j<|.cons g .nil)) (by kernel_rfl)
   ·intro h;obtain rfl:=cB h;exact cF (aO (hs:=[.run 1,.val f,.val i,.val (.int .i64 (n5025:Int)),.dec false,.run 2,.aJ]) (want:=[3]) (by kernel_rfl) (.cons (decide_eq_false d)<|.cons (fD (P:=C0.P) (t:=22) (e:=9) (by kernel_rfl) l)<|.cons j<|.cons g .nil)) (by kernel_rfl)
noncomputable def eV (R:Nat)(a:AV)(b:Nat)(c:AV)(d:St):Option (AV×St):=
 (dB R a b R c 0 d).bind fun(e,f)=>
 some (e,f)
theorem oB {R:Nat}(n:Nat){a:AV}{b:Nat}{c:AV}{d:St}{r:AV×St}(h:eV R a b c d=some r):
 cM 152 (bN C0 (aR C0 cK R (n+16005)) 12 R none (aQ C0.P 12 [1,1,0,1,0,1,1,1,1,1,1,1,0,0,1])) (bG (aQ C0.P 12 [1,1,0,1,0,1,1,1,1,1,1,1,0,0,1])) [(1,a),(2,(.ref b 0)),(3,c),(4,(.int .i64 0))] d .normal [(3,r.1)] r.2:=by
 revert h;unfold eV;refine aA fun o e=>?_;obtain⟨f,g⟩:=o;intro h;obtain rfl:=cB h;exact aO (hs:=[.aJ,.abs [1,2,3,4] (.exit 1) [(3,f)] g]) (want:=[3]) (by kernel_rfl) (aK (cW (nT R n a b R c 0 d _ e)) gD)
noncomputable def gW (R:Nat)(b:AV)(r:Nat)(c:AV)(d:Int)(a:St):Option (AV×St):=
 (shift b 25).bind fun e=>
 (loadAt C0.P a 22 e).bind fun f=>
 (cV C0.P 22 f (.int .i64 d)).bind fun g=>
 (loadAt C0.P a 9 g).bind fun h=>
 (iZ h).bind fun i=>
 (oC [67,79,76,32] i).bind fun j=>
 (aV R j AV.aB a).bind fun(k,l,m)=>
 (eK (aU C0.P (C0.bU 12) 44 1 [(0,(.agg [(.str k),l]))]) m).bind fun(n,o)=>
 (bW C0.P (C0.bU 12) o #[44,44] c n).bind fun(p,q)=>
 some (p,q)
theorem qM {R:Nat}(n:Nat){a:AV}{b:Nat}{c:AV}{d:Int}{e:St}{r:AV×St}(h:gW R a b c d e=some r):
 cM 152 (bN C0 (aR C0 cK R (n+16005)) 12 R none (aQ C0.P 12 [1,1,1,0,1,0,0,1,0])) (bG (aQ C0.P 12 [1,1,1,0,1,0,0,1,0])) [(1,a),(2,(.ref b 0)),(3,c),(5,(.int .i64 d))] e .normal [(3,r.1)] r.2:=by
 revert h;unfold gW;refine aA fun f g=>?_;refine aA fun i j=>?_;refine aA fun k l=>?_;refine aA fun E m=>?_;refine aA fun p q=>?_;obtain rfl:=dY q;refine aA fun s t=>?_;refine aA fun o u=>?_;obtain⟨v,w,x⟩:=o;refine aA fun o y=>?_;obtain⟨z,A⟩:=o;refine aA fun o B=>?_;obtain⟨C,D⟩:=o;intro h;obtain rfl:=cB h;exact aO (hs:=[.aJ,.run 1,.val f,.val i,.run 1,.val k,.val (.str p),.val (.str s),.call (dJ v w) x,.bM z A,.bM C D,.run 1]) (want:=[3]) (by kernel_rfl) (aK B<|aK y<|aK (aX (n+16004) u)<|aK (jF t)<|aK m<|aK l<|aK j<|aK g gD)
noncomputable def eQ (R:Nat)(a:AV)(d:Nat):Nat→AV→Int→St→Option ((AV×St))
 | 0,_,_,_=>none
 | r + 1, e, b, c =>
   (shift a 25).bind fun f=>
   (loadAt C0.P c 22 f).bind fun g=>
   (lenOf g).bind fun n5220=>
   if(b<(n5220:Int)) then
    (gW R a d e b c).bind fun(h,i)=>
    eQ R a d r h (IntKind.wrap .i64 (b+1)) i
   else
    some (e,c)
noncomputable def kA (o:(AV×St)):cZ×List (Nat×AV)×St:=match o with
 | (a0,a1)=>((.exit 3),[(3,a0)],a1)
theorem rM (R n:Nat)(f:AV)(g:Nat):∀(r:Nat) (b:AV) (a:Int) (c:St) (o:(AV×St)),eQ R f g r b a c=some o →
 cM 152 (lO (fun fr k=>bN C0 (aR C0 cK R (n+16005)) 12 R none (aQ C0.P 12 [1,1,1,0,1,0,0]) fr k) r) (bG (aQ C0.P 12 [1,1,1,0,1,0,0])) [(1,f),(2,(.ref g 0)),(3,b),(5,(.int .i64 a))] c (kA o).1 (kA o).2.1 (kA o).2.2:=by
 intro r
 induction r with
 | zero=>intro b a c o h; exact nomatch h
 | succ r ih =>
   intro b a c o
   unfold eQ;refine aA fun i j=>?_;refine aA fun l m=>?_;refine aA fun n5220 p=>?_;refine bD (fun d=>?_) (fun d=>?_)
   ·refine aA fun o u=>?_;obtain⟨q,s⟩:=o;intro h;exact dP (aO (hs:=[.run 1,.val i,.val l,.val (.int .i64 (n5220:Int)),.dec true,.aJ,.rX [1,2,3,5] .normal [(3,q)] s,.run 3]) (want:=[1,2,3,5]) (by kernel_rfl) (.cons (qM n u)<|.cons (decide_eq_true d)<|.cons (fD (P:=C0.P) (t:=22) (e:=9) (by kernel_rfl) p)<|.cons m<|.cons j .nil)) (ih q (IntKind.wrap .i64 (a+1)) s _ h)
   ·intro h;obtain rfl:=cB h;exact cF (aO (hs:=[.run 1,.val i,.val l,.val (.int .i64 (n5220:Int)),.dec false,.aJ]) (want:=[3]) (by kernel_rfl) (.cons (decide_eq_false d)<|.cons (fD (P:=C0.P) (t:=22) (e:=9) (by kernel_rfl) p)<|.cons m<|.cons j .nil)) (by kernel_rfl)
noncomputable def iX (R:Nat)(a:AV)(b:Nat)(c:AV)(d:St):Option (AV×St):=
 (eQ R a b R c 0 d).bind fun(e,f)=>
 some (e,f)
theorem sV {R:Nat}(n:Nat){a:AV}{b:Nat}{c:AV}{d:St}{r:AV×St}(h:iX R a b c d=some r):
 cM 152 (bN C0 (aR C0 cK R (n+16005)) 12 R none (aQ C0.P 12 [1,1,1,0,1])) (bG (aQ C0.P 12 [1,1,1,0,1])) [(1,a),(2,(.ref b 0)),(3,c),(5,(.int .i64 0))] d .normal [(3,r.1)] r.2:=by
 revert h;unfold iX;refine aA fun o e=>?_;obtain⟨f,g⟩:=o;intro h;obtain rfl:=cB h;exact aO (hs:=[.aJ,.abs [1,2,3,5] (.exit 3) [(3,f)] g]) (want:=[3]) (by kernel_rfl) (aK (cW (rM R n a b R c 0 d _ e)) gD)
noncomputable def fY (R:Nat)(k:AV)(l:Nat)(a:AV)(c:Bool)(b:St):Option (AV×St):=
 if c=true then
  (aV R [67,79,85,78,84] AV.aB b).bind fun(d,e,f)=>
  (eK (aU C0.P (C0.bU 12) 44 1 [(0,(.agg [(.str d),e]))]) f).bind fun(g,h)=>
  (bW C0.P (C0.bU 12) h #[44,44] a g).bind fun(i,j)=>
  some (i,j)
 else
  some (a,b)
theorem rN {R:Nat}(n:Nat){b:AV}{c:Nat}{d:AV}{e:Bool}{f:St}{r:AV×St}(h:fY R b c d e f=some r):
 cM 152 (bN C0 (aR C0 cK R (n+16005)) 12 R none (aQ C0.P 12 [1,1,1,1,0,1])) (bG (aQ C0.P 12 [1,1,1,1,0,1])) [(1,b),(2,(.ref c 0)),(3,d),(104,(.bool e))] f .normal [(3,r.1)] r.2:=by
 revert h;unfold fY;refine bD (fun a=>?_) (fun a=>?_)
 ·subst a;refine aA fun o g=>?_;obtain⟨i,j,k⟩:=o;refine aA fun o l=>?_;obtain⟨m,p⟩:=o;refine aA fun o q=>?_;obtain⟨s,t⟩:=o;intro h;obtain rfl:=cB h;exact aO (hs:=[.aJ,.run 1,.call (dJ i j) k,.bM m p,.bM s t,.run 1]) (want:=[3]) (by kernel_rfl) (aK q<|aK l<|aK (aX (n+16004) g) gD)
 ·obtain rfl:=bF a;intro h;obtain rfl:=cB h;exact aO (hs:=[.aJ]) (want:=[3]) (by kernel_rfl) .nil
noncomputable def fQ (R:Nat)(k:AV)(l:Nat)(a:AV)(c:Bool)(b:St):Option (AV×St):=
 if c=true then
  (aV R [72,73,83,84,79,82,89] AV.aB b).bind fun(d,e,f)=>
  (eK (aU C0.P (C0.bU 12) 44 1 [(0,(.agg [(.str d),e]))]) f).bind fun(g,h)=>
  (bW C0.P (C0.bU 12) h #[44,44] a g).bind fun(i,j)=>
  some (i,j)
 else
  some (a,b)
theorem rK {R:Nat}(n:Nat){b:AV}{c:Nat}{d:AV}{e:Bool}{f:St}{r:AV×St}(h:fQ R b c d e f=some r):
 cM 152 (bN C0 (aR C0 cK R (n+16005)) 12 R none (aQ C0.P 12 [1,1,1,1,1,0,1])) (bG (aQ C0.P 12 [1,1,1,1,1,0,1])) [(1,b),(2,(.ref c 0)),(3,d),(110,(.bool e))] f .normal [(3,r.1)] r.2:=by
 revert h;unfold fQ;refine bD (fun a=>?_) (fun a=>?_)
 ·subst a;refine aA fun o g=>?_;obtain⟨i,j,k⟩:=o;refine aA fun o l=>?_;obtain⟨m,p⟩:=o;refine aA fun o q=>?_;obtain⟨s,t⟩:=o;intro h;obtain rfl:=cB h;exact aO (hs:=[.aJ,.run 1,.call (dJ i j) k,.bM m p,.bM s t,.run 1]) (want:=[3]) (by kernel_rfl) (aK q<|aK l<|aK (aX (n+16004) g) gD)
 ·obtain rfl:=bF a;intro h;obtain rfl:=cB h;exact aO (hs:=[.aJ]) (want:=[3]) (by kernel_rfl) .nil
noncomputable def gZ (R:Nat)(b:AV)(c:Nat)(a:AV):Option (AV):=
 some a
theorem qK {R:Nat}(n:Nat){a:AV}{b:Nat}{c:AV}(d:St){r:AV}(h:gZ R a b c=some r):
 cM 152 (bN C0 (aR C0 cK R (n+16005)) 12 R none (aQ C0.P 12 [1,1,1,1,1,1,1,0,1])) (bG (aQ C0.P 12 [1,1,1,1,1,1,1,0,1])) [(1,a),(2,(.ref b 0)),(3,c),(122,(.bool false))] d .normal [(3,r)] d:=by
 revert h;unfold gZ;intro h;obtain rfl:=cB h;exact aO (hs:=[.aJ]) (want:=[3]) (by kernel_rfl) .nil
noncomputable def dG (R:Nat)(k:AV)(l:Nat)(a:AV)(c:Bool)(b:St):Option (AV×St):=
 if c=true then
  (aV R [68,69,83,67] AV.aB b).bind fun(d,e,f)=>
  (eK (aU C0.P (C0.bU 12) 44 1 [(0,(.agg [(.str d),e]))]) f).bind fun(g,h)=>
  (bW C0.P (C0.bU 12) h #[44,44] a g).bind fun(i,j)=>
  some (i,j)
 else
  some (a,b)
theorem lN {R:Nat}(n:Nat){b:AV}{c:Nat}{d:AV}{e:Bool}{f:St}{r:AV×St}(h:dG R b c d e f=some r):
 cM 152 (bN C0 (aR C0 cK R (n+16005)) 12 R none (aQ C0.P 12 [1,1,1,1,1,1,1,1,0,1])) (bG (aQ C0.P 12 [1,1,1,1,1,1,1,1,0,1])) [(1,b),(2,(.ref c 0)),(3,d),(131,(.bool e))] f .normal [(3,r.1)] r.2:=by
 revert h;unfold dG;refine bD (fun a=>?_) (fun a=>?_)
 ·subst a;refine aA fun o g=>?_;obtain⟨i,j,k⟩:=o;refine aA fun o l=>?_;obtain⟨m,p⟩:=o;refine aA fun o q=>?_;obtain⟨s,t⟩:=o;intro h;obtain rfl:=cB h;exact aO (hs:=[.aJ,.run 1,.call (dJ i j) k,.bM m p,.bM s t,.run 1]) (want:=[3]) (by kernel_rfl) (aK q<|aK l<|aK (aX (n+16004) g) gD)
 ·obtain rfl:=bF a;intro h;obtain rfl:=cB h;exact aO (hs:=[.aJ]) (want:=[3]) (by kernel_rfl) .nil
noncomputable def dD (R:Nat)(b:AV)(q:Nat)(c:AV)(a:St):Option (AV×St):=
 (shift b 30).bind fun d=>
 (loadAt C0.P a 3 d).bind fun e=>
 (eP .i64 e).bind fun f=>
 (strconv_Itoa R f a).bind fun(g,h)=>
 (oC [76,73,77,73,84,32] g).bind fun i=>
 (aV R i AV.aB h).bind fun(j,k,l)=>
 (eK (aU C0.P (C0.bU 12) 44 1 [(0,(.agg [(.str j),k]))]) l).bind fun(m,n)=>
 (bW C0.P (C0.bU 12) n #[44,44] c m).bind fun(o,p)=>
 some (o,p)
theorem lB {R:Nat}(n:Nat){a:AV}{b:Nat}{c:AV}{d:St}{r:AV×St}(h:dD R a b c d=some r):
 cM 152 (bN C0 (aR C0 cK R (n+16005)) 12 R none (aQ C0.P 12 [1,1,1,1,1,1,1,1,1,0,1])) (bG (aQ C0.P 12 [1,1,1,1,1,1,1,1,1,0,1])) [(1,a),(2,(.ref b 0)),(3,c),(138,(.bool true))] d .normal [(3,r.1)] r.2:=by
 revert h;unfold dD;refine aA fun e f=>?_;refine aA fun C g=>?_;refine aA fun i j=>?_;obtain rfl:=cA j;refine aA fun o k=>?_;obtain⟨l,m⟩:=o;refine aA fun p q=>?_;refine aA fun o s=>?_;obtain⟨t,u,v⟩:=o;refine aA fun o w=>?_;obtain⟨x,y⟩:=o;refine aA fun o z=>?_;obtain⟨A,B⟩:=o;intro h;obtain rfl:=cB h;exact aO (hs:=[.aJ,.run 1,.val e,.val (.int .i64 i),.call (.str l) m,.val (.str p),.call (dJ t u) v,.bM x y,.bM A B,.run 1]) (want:=[3]) (by kernel_rfl) (aK z<|aK w<|aK (aX (n+16004) s)<|aK (jF q)<|aK (DO (n+16002) k)<|aK g<|aK f gD)
noncomputable def dN (R:Nat)(b:AV)(c:Nat)(a:AV):Option (AV):=
 some a
theorem kK {R:Nat}(n:Nat){a:AV}{b:Nat}{c:AV}(d:St){r:AV}(h:dN R a b c=some r):
 cM 152 (bN C0 (aR C0 cK R (n+16005)) 12 R none (aQ C0.P 12 [1,1,1,1,1,1,1,1,1,0,1])) (bG (aQ C0.P 12 [1,1,1,1,1,1,1,1,1,0,1])) [(1,a),(2,(.ref b 0)),(3,c),(138,(.bool false))] d .normal [(3,r)] d:=by
 revert h;unfold dN;intro h;obtain rfl:=cB h;exact aO (hs:=[.aJ]) (want:=[3]) (by kernel_rfl) .nil
noncomputable def eN (R:Nat)(b:AV)(o:Nat)(c:AV)(a:St):Option (AV×St):=
 (shift b 28).bind fun d=>
 (loadAt C0.P a 9 d).bind fun e=>
 (iZ e).bind fun f=>
 (oC [79,82,68,69,82,32] f).bind fun g=>
 (aV R g AV.aB a).bind fun(h,i,j)=>
 (eK (aU C0.P (C0.bU 12) 44 1 [(0,(.agg [(.str h),i]))]) j).bind fun(k,l)=>
 (bW C0.P (C0.bU 12) l #[44,44] c k).bind fun(m,n)=>
 some (m,n)
theorem pH {R:Nat}(n:Nat){a:AV}{b:Nat}{c:AV}{d:St}{r:AV×St}(h:eN R a b c d=some r):
 cM 152 (bN C0 (aR C0 cK R (n+16005)) 12 R none (aQ C0.P 12 [1,1,1,1,1,1,1,0,1])) (bG (aQ C0.P 12 [1,1,1,1,1,1,1,0,1])) [(1,a),(2,(.ref b 0)),(3,c),(122,(.bool true))] d .normal [(3,r.1)] r.2:=by
 revert h;unfold eN;refine aA fun e f=>?_;refine aA fun z g=>?_;refine aA fun i j=>?_;obtain rfl:=dY j;refine aA fun k l=>?_;refine aA fun o m=>?_;obtain⟨p,q,s⟩:=o;refine aA fun o t=>?_;obtain⟨u,v⟩:=o;refine aA fun o w=>?_;obtain⟨x,y⟩:=o;intro h;obtain rfl:=cB h;exact aO (hs:=[.aJ,.run 1,.val e,.val (.str i),.val (.str k),.call (dJ p q) s,.bM u v,.bM x y,.run 1]) (want:=[3]) (by kernel_rfl) (aK w<|aK t<|aK (aX (n+16004) m)<|aK (jF l)<|aK g<|aK f gD)
noncomputable def eJ (R:Nat)(L:Int)(M:List UInt8)(N:List UInt8)(O:Int)(Q:List UInt8)(S:Int)(T:Bool)(U:Int)(V:List UInt8)(W:AV)(X:AV)(Y:AV)(Z:AV)(a0:AV)(a1:AV)(a2:Int)(a3:List UInt8)(a4:Int)(a5:Bool)(a6:Int)(a7:List UInt8)(a8:AV)(a9:AV)(b0:AV)(b1:AV)(b2:AV)(b3:Bool)(b4:Bool)(b5:List UInt8)(b6:Bool)(b7:Int)(b8:St):Option (List UInt8×AV×St):=
 (qP 34 (.agg [(.int .i64 L),(.str M),(.str N),(.int .i64 O),(.str Q),(.int .i64 S),(.bool T),(.int .i64 U),(.str V),W,X,Y,Z,a0,a1,(.int .i64 a2),(.str a3),(.int .i64 a4),(.bool a5),(.int .i64 a6),(.str a7),a8,a9,b0,b1,b2,(.bool b3),(.bool b4),(.str b5),(.bool b6),(.int .i64 b7)]) b8).bind fun(a,b)=>
 (eK (aU C0.P (C0.bU 12) 44 0 []) (St.push b (.cells 46 true [(.str []),AV.aB]))).bind fun(k,c)=>
 (shift a 0).bind fun b9=>
 (loadAt C0.P c 3 b9).bind fun c0=>
 (eP .i64 c0).bind fun d=>
 if(d=1) then
  (shift a 1).bind fun c1=>
  (loadAt C0.P c 9 c1).bind fun c2=>
  (iZ c2).bind fun c3=>
  (oC [84,65,66,76,69,32] c3).bind fun c4=>
  (aV R c4 AV.aB c).bind fun(c5,c6,c7)=>
  (storeAt C0.P c7 46 (.ref (St.next b) 0) (.agg [(.str c5),c6])).bind fun l=>
  (loadAt C0.P l 46 (.ref (St.next b) 0)).bind fun c8=>
  (dF c8).bind fun(c9,d0)=>
  some (c9,d0,l)
 else
  if(d=2) then
   (shift a 1).bind fun d1=>
   (loadAt C0.P c 9 d1).bind fun d2=>
   (iZ d2).bind fun d3=>
   (oC [73,78,68,69,88,32] d3).bind fun d4=>
   (oC d4 [32]).bind fun d5=>
   (shift a 2).bind fun d6=>
   (loadAt C0.P c 9 d6).bind fun d7=>
   (iZ d7).bind fun d8=>
   (oC d5 d8).bind fun d9=>
   (aV R d9 AV.aB c).bind fun(e0,e1,e2)=>
   (storeAt C0.P e2 46 (.ref (St.next b) 0) (.agg [(.str e0),e1])).bind fun m=>
   (loadAt C0.P m 46 (.ref (St.next b) 0)).bind fun e3=>
   (dF e3).bind fun(e4,e5)=>
   some (e4,e5,m)
  else
   if(d=3) then
    (shift a 1).bind fun n=>
    (loadAt C0.P c 9 n).bind fun e6=>
    (iZ e6).bind fun o=>
    (oC [73,78,83,69,82,84,32] o).bind fun e7=>
    (shift a 3).bind fun e8=>
    (loadAt C0.P c 32 e8).bind fun e9=>
    (aI e9).bind fun(f0,f1,f2,f3,f4,f5,f6,f7,f8,f9)=>
    (iQ R f0 f1 f2 f3 f4 f5 f6 f7 f8 f9 c).bind fun(g0,g1,p)=>
    (loadAt C0.P p 9 n).bind fun g2=>
    if AV.beq g2 (.str o)=true then
     (eK (aU C0.P (C0.bU 12) 44 1 [(0,(.agg [(.str g0),g1]))]) p).bind fun(g3,g4)=>
     (aV R e7 g3 g4).bind fun(g5,g6,g7)=>
     (storeAt C0.P g7 46 (.ref (St.next b) 0) (.agg [(.str g5),g6])).bind fun q=>
     (loadAt C0.P q 46 (.ref (St.next b) 0)).bind fun g8=>
     (dF g8).bind fun(g9,h0)=>
     some (g9,h0,q)
    else
     none
   else
    if (d = 4) then
     (eV R a (St.next b) k c).bind fun(h1,h)=>
     (shift a 1).bind fun i=>
     (loadAt C0.P h 9 i).bind fun h2=>
     (iZ h2).bind fun j=>
     (oC [85,80,68,65,84,69,32] j).bind fun h3=>
     (shift a 15).bind fun h4=>
     (loadAt C0.P h 32 h4).bind fun h5=>
     (aI h5).bind fun(h6,h7,h8,h9,i0,i1,i2,i3,i4,i5)=>
     (gM R h6 h7 h8 h9 i0 i1 i2 i3 i4 i5 h).bind fun(i6,r)=>
     (loadAt C0.P r 9 i).bind fun i7=>
     if AV.beq i7 (.str j)=true then
      (bW C0.P (C0.bU 12) r #[44,44] h1 i6).bind fun(i9,s)=>
      (loadAt C0.P s 9 i).bind fun j0=>
      if AV.beq j0 (.str j)=true then
       (aV R h3 i9 s).bind fun(j1,j2,j3)=>
       (storeAt C0.P j3 46 (.ref (St.next b) 0) (.agg [(.str j1),j2])).bind fun t=>
       (loadAt C0.P t 46 (.ref (St.next b) 0)).bind fun j4=>
       (dF j4).bind fun(j5,j6)=>
       some (j5,j6,t)
      else
       none
     else
      none
    else
     if(d=5) then
      (shift a 1).bind fun u=>
      (loadAt C0.P c 9 u).bind fun j7=>
      (iZ j7).bind fun v=>
      (oC [68,69,76,69,84,69,32] v).bind fun j8=>
      (shift a 15).bind fun j9=>
      (loadAt C0.P c 32 j9).bind fun k0=>
      (aI k0).bind fun(k1,k2,k3,k4,k5,k6,k7,k8,k9,l0)=>
      (gM R k1 k2 k3 k4 k5 k6 k7 k8 k9 l0 c).bind fun(l1,w)=>
      (loadAt C0.P w 9 u).bind fun l2=>
      if AV.beq l2 (.str v)=true then
       (aV R j8 l1 w).bind fun(l3,l4,l5)=>
       (storeAt C0.P l5 46 (.ref (St.next b) 0) (.agg [(.str l3),l4])).bind fun x=>
       (loadAt C0.P x 46 (.ref (St.next b) 0)).bind fun l6=>
       (dF l6).bind fun(l7,l8)=>
       some (l7,l8,x)
      else
       none
     else
      (iX R a (St.next b) k c).bind fun(l9,y)=>
      (shift a 26).bind fun m0=>
      (loadAt C0.P y 4 m0).bind fun m1=>
      (rO m1).bind fun m2=>
      (fY R a (St.next b) l9 m2 y).bind fun(m3,z)=>
      (shift a 27).bind fun m4=>
      (loadAt C0.P z 4 m4).bind fun m5=>
      (rO m5).bind fun m6=>
      (fQ R a (St.next b) m3 m6 z).bind fun(m7,A)=>
      (shift a 15).bind fun m8=>
      (loadAt C0.P A 32 m8).bind fun m9=>
      (aI m9).bind fun(n0,n1,n2,n3,n4,n5,n6,n7,n8,n9)=>
      (gM R n0 n1 n2 n3 n4 n5 n6 n7 n8 n9 A).bind fun(o0,o1)=>
      (bW C0.P (C0.bU 12) o1 #[44,44] m7 o0).bind fun(B,e)=>
      (shift a 28).bind fun o2=>
      (loadAt C0.P e 9 o2).bind fun o3=>
      (iZ o3).bind fun o4=>
      if(o4=[]) then
       (gZ R a (St.next b) B).bind fun o5=>
       (shift a 29).bind fun o6=>
       (loadAt C0.P e 4 o6).bind fun o7=>
       (rO o7).bind fun o8=>
       (dG R a (St.next b) o5 o8 e).bind fun(C,f)=>
       (shift a 30).bind fun o9=>
       (loadAt C0.P f 3 o9).bind fun p0=>
       (eP .i64 p0).bind fun p1=>
       if(p1≥0) then
        (dD R a (St.next b) C f).bind fun(p2,D)=>
        (shift a 1).bind fun p3=>
        (loadAt C0.P D 9 p3).bind fun p4=>
        (iZ p4).bind fun p5=>
        (oC [83,69,76,69,67,84,32] p5).bind fun p6=>
        (aV R p6 p2 D).bind fun(p7,p8,p9)=>
        (storeAt C0.P p9 46 (.ref (St.next b) 0) (.agg [(.str p7),p8])).bind fun E=>
        (loadAt C0.P E 46 (.ref (St.next b) 0)).bind fun q0=>
        (dF q0).bind fun(q1,q2)=>
        some (q1,q2,E)
       else
        (dN R a (St.next b) C).bind fun q3=>
        (shift a 1).bind fun q4=>
        (loadAt C0.P f 9 q4).bind fun q5=>
        (iZ q5).bind fun q6=>
        (oC [83,69,76,69,67,84,32] q6).bind fun q7=>
        (aV R q7 q3 f).bind fun(q8,q9,r0)=>
        (storeAt C0.P r0 46 (.ref (St.next b) 0) (.agg [(.str q8),q9])).bind fun F=>
        (loadAt C0.P F 46 (.ref (St.next b) 0)).bind fun r1=>
        (dF r1).bind fun(r2,r3)=>
        some (r2,r3,F)
      else
       (eN R a (St.next b) B e).bind fun(r4,G)=>
       (shift a 29).bind fun r5=>
       (loadAt C0.P G 4 r5).bind fun r6=>
       (rO r6).bind fun r7=>
       (dG R a (St.next b) r4 r7 G).bind fun(H,g)=>
       (shift a 30).bind fun r8=>
       (loadAt C0.P g 3 r8).bind fun r9=>
       (eP .i64 r9).bind fun s0=>
       if(s0≥0) then
        (dD R a (St.next b) H g).bind fun(s1,I)=>
        (shift a 1).bind fun s2=>
        (loadAt C0.P I 9 s2).bind fun s3=>
        (iZ s3).bind fun s4=>
        (oC [83,69,76,69,67,84,32] s4).bind fun s5=>
        (aV R s5 s1 I).bind fun(s6,s7,s8)=>
        (storeAt C0.P s8 46 (.ref (St.next b) 0) (.agg [(.str s6),s7])).bind fun J=>
        (loadAt C0.P J 46 (.ref (St.next b) 0)).bind fun s9=>
        (dF s9).bind fun(t0,t1)=>
        some (t0,t1,J)
       else
        (dN R a (St.next b) H).bind fun t2=>
        (shift a 1).bind fun t3=>
        (loadAt C0.P g 9 t3).bind fun t4=>
        (iZ t4).bind fun t5=>
        (oC [83,69,76,69,67,84,32] t5).bind fun t6=>
        (aV R t6 t2 g).bind fun(t7,t8,t9)=>
        (storeAt C0.P t9 46 (.ref (St.next b) 0) (.agg [(.str t7),t8])).bind fun K=>
        (loadAt C0.P K 46 (.ref (St.next b) 0)).bind fun u0=>
        (dF u0).bind fun(u1,u2)=>
        some (u1,u2,K)
theorem kW {R : Nat} (n : Nat) {W : Int} {X : List UInt8} {Y : List UInt8} {Z : Int} {a0 : List UInt8} {a1 : Int} {a2 : Bool} {a3 : Int} {a4 : List UInt8} {a5 : AV} {a6 : AV} {a7 : AV} {a8 : AV} {a9 : AV} {b0 : AV} {b1 : Int} {b2 : List UInt8} {b3 : Int} {b4 : Bool} {b5 : Int} {b6 : List UInt8} {b8 : AV} {b9 : AV} {c0 : AV} {c1 : AV} {c2 : AV} {c3 : Bool} {c4 : Bool} {c5 : List UInt8} {c6 : Bool} {c7 : Int} {c8 : St} {r : List UInt8 × AV × St} (h : eJ R W X Y Z a0 a1 a2 a3 a4 a5 a6 a7 a8 a9 b0 b1 b2 b3 b4 b5 b6 b8 b9 c0 c1 c2 c3 c4 c5 c6 c7 c8 = some r):
 b7 (aR C0 cK R (n+16006)) false 12 [(.agg [(.int .i64 W),(.str X),(.str Y),(.int .i64 Z),(.str a0),(.int .i64 a1),(.bool a2),(.int .i64 a3),(.str a4),a5,a6,a7,a8,a9,b0,(.int .i64 b1),(.str b2),(.int .i64 b3),(.bool b4),(.int .i64 b5),(.str b6),b8,b9,c0,c1,c2,(.bool c3),(.bool c4),(.str c5),(.bool c6),(.int .i64 c7)])] c8 (.agg [.str r.1,r.2.1]) r.2.2:=by
 revert h;unfold eJ;refine aA fun o e6=>?_;obtain⟨a,b⟩:=o;refine aA fun o e7=>?_;obtain⟨c,d⟩:=o;refine aA fun e e8=>?_;refine aA fun G4 e9=>?_;refine aA fun f f0=>?_;obtain rfl:=cA f0;have q9045:=aK e9<|aK e8<|aK e7<|aK (xK e6) gD
 refine bD (fun N=>?_) (fun N=>?_)
 ·refine aA fun f1 f2=>?_;refine aA fun G5 f3=>?_;refine aA fun f4 f5=>?_;obtain rfl:=dY f5;refine aA fun f6 f7=>?_;refine aA fun o f8=>?_;obtain⟨f9,g0,g1⟩:=o;refine aA fun g2 g3=>?_;refine aA fun G6 g4=>?_;refine aA fun o g5=>?_;obtain⟨g6,g7⟩:=o;obtain rfl:=cL g5;intro h;obtain rfl:=cB h;exact aL (hs:=[.bM a b,.run 1,.bM c d,.run 1,.val e,.val (.int .i64 f),.aJ,.dec true,.run 1,.aJ,.val f1,.val (.str f4),.val (.str f6),.call (dJ f9 g0) g1,.bM AV.undef g2,.val (dJ g6 g7)]) (by kernel_rfl) (aK g4<|aK (aP g3)<|aK (aX (n+16004) f8)<|aK (jF f7)<|aK f3<|aK f2<|aK (gA N) q9045) (by kernel_rfl) (by kernel_rfl)
 ·have q9046:=aK (eW N) q9045
  refine bD (fun O=>?_) (fun O=>?_)
  ·refine aA fun g8 g9=>?_;refine aA fun G7 h0=>?_;refine aA fun h1 h2=>?_;obtain rfl:=dY h2;refine aA fun h3 h4=>?_;refine aA fun h5 h6=>?_;refine aA fun h7 h8=>?_;refine aA fun G8 h9=>?_;refine aA fun i0 i1=>?_;obtain rfl:=dY i1;refine aA fun i2 i3=>?_;refine aA fun o i4=>?_;obtain⟨i5,i6,i7⟩:=o;refine aA fun i9 j0=>?_;refine aA fun G9 j1=>?_;refine aA fun o j2=>?_;obtain⟨j3,j4⟩:=o;obtain rfl:=cL j2;intro h;obtain rfl:=cB h;exact aL (hs:=[.bM a b,.run 1,.bM c d,.run 1,.val e,.val (.int .i64 f),.aJ,.dec false,.run 1,.aJ,.dec true,.run 1,.aJ,.val g8,.val (.str h1),.val (.str h3),.val (.str h5),.val h7,.val (.str i0),.val (.str i2),.call (dJ i5 i6) i7,.bM AV.undef i9,.val (dJ j3 j4)]) (by kernel_rfl) (aK j1<|aK (aP j0)<|aK (aX (n+16004) i4)<|aK (jF i3)<|aK h9<|aK h8<|aK (jF h6)<|aK (jF h4)<|aK h0<|aK g9<|aK (gA O) q9046) (by kernel_rfl) (by kernel_rfl)
  ·have q9047:=aK (eW O) q9046
   refine bD (fun P=>?_) (fun P=>?_)
   ·refine aA fun j5 j6=>?_;refine aA fun H0 j7=>?_;refine aA fun j8 j9=>?_;obtain rfl:=dY j9;refine aA fun k0 k1=>?_;refine aA fun k2 k3=>?_;refine aA fun H1 k4=>?_;refine aA fun o k5=>?_;obtain⟨k6,k7,k8,k9,l0,l1,l2,l3,l4,l5⟩:=o;obtain rfl:=aH k5;refine aA fun o l6=>?_;obtain⟨l7,l8,l9⟩:=o;refine aA fun H2 m0=>?_;refine bD (fun c9=>?_) (fun c9=>?_)
    ·refine aA fun o m1=>?_;obtain⟨m2,m3⟩:=o;refine aA fun o m4=>?_;obtain⟨m5,m6,m7⟩:=o;refine aA fun m8 m9=>?_;refine aA fun H3 n0=>?_;refine aA fun o n1=>?_;obtain⟨n2,n3⟩:=o;obtain rfl:=cL n1;intro h;obtain rfl:=cB h;exact aL (hs:=[.bM a b,.run 1,.bM c d,.run 1,.val e,.val (.int .i64 f),.aJ,.dec false,.run 1,.aJ,.dec false,.run 1,.aJ,.dec true,.run 1,.aJ,.val j5,.val (.str j8),.val (.str k0),.val k2,.val (aN k6 k7 k8 k9 l0 l1 l2 l3 l4 l5),.call (dJ l7 l8) l9,.bM m2 m3,.call (dJ m5 m6) m7,.bM AV.undef m8,.val (dJ n2 n3)]) (by kernel_rfl) (aK n0<|aK (aP m9)<|aK (aX (n+16004) m4)<|aK m1<|aK (jE m0 c9)<|aK (lL (n+1) l6)<|aK k4<|aK k3<|aK (jF k1)<|aK j7<|aK j6<|aK (gA P) q9047) (by kernel_rfl) (by kernel_rfl)
    ·exact fun h=>nomatch h
   ·have q9048:=aK (eW P) q9047
    refine bD (fun Q=>?_) (fun Q=>?_)
    ·refine aA fun o n4=>?_;obtain⟨n5,n6⟩:=o;refine aA fun n7 n8=>?_;refine aA fun H4 n9=>?_;refine aA fun o0 o1=>?_;obtain rfl:=dY o1;refine aA fun o2 o3=>?_;refine aA fun o4 o5=>?_;refine aA fun H5 o6=>?_;refine aA fun o o7=>?_;obtain⟨o8,o9,p0,p1,p2,p3,p4,p5,p6,p7⟩:=o;obtain rfl:=aH o7;refine aA fun o p8=>?_;obtain⟨p9,q0⟩:=o;refine aA fun H6 q1=>?_;refine bD (fun d0=>?_) (fun d0=>?_)
     ·refine aA fun o q2=>?_;obtain⟨q3,q4⟩:=o;refine aA fun H7 q5=>?_;refine bD (fun d1=>?_) (fun d1=>?_)
      ·refine aA fun o q6=>?_;obtain⟨q7,q8,q9⟩:=o;refine aA fun r0 r1=>?_;refine aA fun H8 r2=>?_;refine aA fun o r3=>?_;obtain⟨r4,r5⟩:=o;obtain rfl:=cL r3;intro h;obtain rfl:=cB h;exact aL (hs:=[.bM a b,.run 1,.bM c d,.run 1,.val e,.val (.int .i64 f),.aJ,.dec false,.run 1,.aJ,.dec false,.run 1,.aJ,.dec false,.run 1,.aJ,.dec true,.run 1,.aJ,.run 1,.rX [1,2,3,4] .normal [(3,n5)] n6,.val n7,.val (.str o0),.val (.str o2),.run 1,.val o4,.val (aN o8 o9 p0 p1 p2 p3 p4 p5 p6 p7),.call p9 q0,.bM q3 q4,.call (dJ q7 q8) q9,.bM AV.undef r0,.val (dJ r4 r5)]) (by kernel_rfl) (aK r2<|aK (aP r1)<|aK (aX (n+16004) q6)<|aK (jE q5 d1)<|aK q2<|aK (jE q1 d0)<|aK (mV n p8)<|aK o6<|aK o5<|aK (jF o3)<|aK n9<|aK n8<|aK (oB n n4)<|aK (gA Q) q9048) (by kernel_rfl) (by kernel_rfl)
      ·exact fun h=>nomatch h
     ·exact fun h=>nomatch h
    ·have q9049:=aK (eW Q) q9048
     refine bD (fun S=>?_) (fun S=>?_)
     ·refine aA fun r6 r7=>?_;refine aA fun H9 r8=>?_;refine aA fun r9 s0=>?_;obtain rfl:=dY s0;refine aA fun s1 s2=>?_;refine aA fun s3 s4=>?_;refine aA fun I0 s5=>?_;refine aA fun o s6=>?_;obtain⟨s7,s8,s9,t0,t1,t2,t3,t4,t5,t6⟩:=o;obtain rfl:=aH s6;refine aA fun o t7=>?_;obtain⟨t8,t9⟩:=o;refine aA fun I1 u0=>?_;refine bD (fun d2=>?_) (fun d2=>?_)
      ·refine aA fun o u1=>?_;obtain⟨u2,u3,u4⟩:=o;refine aA fun u5 u6=>?_;refine aA fun I2 u7=>?_;refine aA fun o u9=>?_;obtain⟨v0,v1⟩:=o;obtain rfl:=cL u9;intro h;obtain rfl:=cB h;exact aL (hs:=[.bM a b,.run 1,.bM c d,.run 1,.val e,.val (.int .i64 f),.aJ,.dec false,.run 1,.aJ,.dec false,.run 1,.aJ,.dec false,.run 1,.aJ,.dec false,.run 1,.aJ,.dec true,.run 1,.aJ,.val r6,.val (.str r9),.val (.str s1),.val s3,.val (aN s7 s8 s9 t0 t1 t2 t3 t4 t5 t6),.call t8 t9,.call (dJ u2 u3) u4,.bM AV.undef u5,.val (dJ v0 v1)]) (by kernel_rfl) (aK u7<|aK (aP u6)<|aK (aX (n+16004) u1)<|aK (jE u0 d2)<|aK (mV n t7)<|aK s5<|aK s4<|aK (jF s2)<|aK r8<|aK r7<|aK (gA S) q9049) (by kernel_rfl) (by kernel_rfl)
      ·exact fun h=>nomatch h
     ·refine aA fun o v2=>?_;obtain⟨i,j⟩:=o;refine aA fun k v3=>?_;refine aA fun I3 v4=>?_;refine aA fun l v5=>?_;obtain rfl:=uN v5;refine aA fun o v6=>?_;obtain⟨m,p⟩:=o;refine aA fun q v7=>?_;refine aA fun I4 v8=>?_;refine aA fun s v9=>?_;obtain rfl:=uN v9;refine aA fun o w0=>?_;obtain⟨t,u⟩:=o;refine aA fun v w1=>?_;refine aA fun I5 w2=>?_;refine aA fun o w3=>?_;obtain⟨w,x,y,z,A,B,C,D,E,F⟩:=o;obtain rfl:=aH w3;refine aA fun o w4=>?_;obtain⟨G,H⟩:=o;refine aA fun o w5=>?_;obtain⟨I,g⟩:=o;refine aA fun J w6=>?_;refine aA fun I6 w7=>?_;refine aA fun K w8=>?_;obtain rfl:=dY w8;have q9050:=aK w7<|aK w6<|aK w5<|aK (mV n w4)<|aK w2<|aK w1<|aK (rK n w0)<|aK v8<|aK v7<|aK (rN n v6)<|aK v4<|aK v3<|aK (sV n v2)<|aK (eW S) q9049
      refine bD (fun T=>?_) (fun T=>?_)
      ·refine aA fun d3 w9=>?_;refine aA fun d4 x0=>?_;refine aA fun I7 x1=>?_;refine aA fun d5 x2=>?_;obtain rfl:=uN x2;refine aA fun o x3=>?_;obtain⟨d6,L⟩:=o;refine aA fun d7 x4=>?_;refine aA fun I8 x5=>?_;refine aA fun d8 x6=>?_;obtain rfl:=cA x6;have q9051:=aK x5<|aK x4<|aK (lN n x3)<|aK x1<|aK x0<|aK (qK n g w9)<|aK (Oe T) q9050
       refine bD (fun U=>?_) (fun U=>?_)
       ·refine aA fun o x7=>?_;obtain⟨x8,x9⟩:=o;refine aA fun y0 y1=>?_;refine aA fun I9 y2=>?_;refine aA fun y3 y4=>?_;obtain rfl:=dY y4;refine aA fun y5 y6=>?_;refine aA fun o y7=>?_;obtain⟨y8,y9,z0⟩:=o;refine aA fun z1 z2=>?_;refine aA fun J0 z3=>?_;refine aA fun o z4=>?_;obtain⟨z5,z6⟩:=o;obtain rfl:=cL z4;intro h;obtain rfl:=cB h;exact aL (hs:=[.bM a b,.run 1,.bM c d,.run 1,.val e,.val (.int .i64 f),.aJ,.dec false,.run 1,.aJ,.dec false,.run 1,.aJ,.dec false,.run 1,.aJ,.dec false,.run 1,.aJ,.dec false,.run 1,.aJ,.run 1,.rX [1,2,3,5] .normal [(3,i)] j,.val k,.val (.bool l),.eE [1,2,3,104] .normal [(3,m)] p,.val q,.val (.bool s),.eE [1,2,3,110] .normal [(3,t)] u,.run 1,.val v,.val (aN w x y z A B C D E F),.call G H,.bM I g,.run 1,.val J,.val (.str K),.dec false,.eE [1,2,3,122] .normal [(3,d3)] g,.val d4,.val (.bool d5),.eE [1,2,3,131] .normal [(3,d6)] L,.val d7,.val (.int .i64 d8),.dec true,.eE [1,2,3,138] .normal [(3,x8)] x9,.val y0,.val (.str y3),.val (.str y5),.run 1,.call (dJ y8 y9) z0,.bM AV.undef z1,.val (dJ z5 z6)]) (by kernel_rfl) (aK z3<|aK (aP z2)<|aK (aX (n+16004) y7)<|aK (jF y6)<|aK y2<|aK y1<|aK (lB n x7)<|aK (decide_eq_true U) q9051) (by kernel_rfl) (by kernel_rfl)
       ·refine aA fun z7 z8=>?_;refine aA fun z9 A0=>?_;refine aA fun J1 A1=>?_;refine aA fun A2 A3=>?_;obtain rfl:=dY A3;refine aA fun A4 A5=>?_;refine aA fun o A6=>?_;obtain⟨A7,A8,A9⟩:=o;refine aA fun B0 B1=>?_;refine aA fun J2 B2=>?_;refine aA fun o B3=>?_;obtain⟨B4,B5⟩:=o;obtain rfl:=cL B3;intro h;obtain rfl:=cB h;exact aL (hs:=[.bM a b,.run 1,.bM c d,.run 1,.val e,.val (.int .i64 f),.aJ,.dec false,.run 1,.aJ,.dec false,.run 1,.aJ,.dec false,.run 1,.aJ,.dec false,.run 1,.aJ,.dec false,.run 1,.aJ,.run 1,.rX [1,2,3,5] .normal [(3,i)] j,.val k,.val (.bool l),.eE [1,2,3,104] .normal [(3,m)] p,.val q,.val (.bool s),.eE [1,2,3,110] .normal [(3,t)] u,.run 1,.val v,.val (aN w x y z A B C D E F),.call G H,.bM I g,.run 1,.val J,.val (.str K),.dec false,.eE [1,2,3,122] .normal [(3,d3)] g,.val d4,.val (.bool d5),.eE [1,2,3,131] .normal [(3,d6)] L,.val d7,.val (.int .i64 d8),.dec false,.eE [1,2,3,138] .normal [(3,z7)] L,.val z9,.val (.str A2),.val (.str A4),.run 1,.call (dJ A7 A8) A9,.bM AV.undef B0,.val (dJ B4 B5)]) (by kernel_rfl) (aK B2<|aK (aP B1)<|aK (aX (n+16004) A6)<|aK (jF A5)<|aK A1<|aK A0<|aK (kK n L z8)<|aK (decide_eq_false U) q9051) (by kernel_rfl) (by kernel_rfl)
      ·refine aA fun o B6=>?_;obtain⟨d9,e0⟩:=o;refine aA fun e1 B7=>?_;refine aA fun J3 B8=>?_;refine aA fun e2 B9=>?_;obtain rfl:=uN B9;refine aA fun o C1=>?_;obtain⟨e3,M⟩:=o;refine aA fun e4 C2=>?_;refine aA fun J4 C3=>?_;refine aA fun e5 C4=>?_;obtain rfl:=cA C4;have q9052:=aK C3<|aK C2<|aK (lN n C1)<|aK B8<|aK B7<|aK (pH n B6)<|aK (OY T) q9050
       refine bD (fun V=>?_) (fun V=>?_)
       ·refine aA fun o C5=>?_;obtain⟨C6,C7⟩:=o;refine aA fun C8 C9=>?_;refine aA fun J5 D0=>?_;refine aA fun D1 D2=>?_;obtain rfl:=dY D2;refine aA fun D3 D4=>?_;refine aA fun o D5=>?_;obtain⟨D6,D7,D8⟩:=o;refine aA fun D9 E0=>?_;refine aA fun J6 E1=>?_;refine aA fun o E2=>?_;obtain⟨E3,E4⟩:=o;obtain rfl:=cL E2;intro h;obtain rfl:=cB h;exact aL (hs:=[.bM a b,.run 1,.bM c d,.run 1,.val e,.val (.int .i64 f),.aJ,.dec false,.run 1,.aJ,.dec false,.run 1,.aJ,.dec false,.run 1,.aJ,.dec false,.run 1,.aJ,.dec false,.run 1,.aJ,.run 1,.rX [1,2,3,5] .normal [(3,i)] j,.val k,.val (.bool l),.eE [1,2,3,104] .normal [(3,m)] p,.val q,.val (.bool s),.eE [1,2,3,110] .normal [(3,t)] u,.run 1,.val v,.val (aN w x y z A B C D E F),.call G H,.bM I g,.run 1,.val J,.val (.str K),.dec true,.eE [1,2,3,122] .normal [(3,d9)] e0,.val e1,.val (.bool e2),.eE [1,2,3,131] .normal [(3,e3)] M,.val e4,.val (.int .i64 e5),.dec true,.eE [1,2,3,138] .normal [(3,C6)] C7,.val C8,.val (.str D1),.val (.str D3),.run 1,.call (dJ D6 D7) D8,.bM AV.undef D9,.val (dJ E3 E4)]) (by kernel_rfl) (aK E1<|aK (aP E0)<|aK (aX (n+16004) D5)<|aK (jF D4)<|aK D0<|aK C9<|aK (lB n C5)<|aK (decide_eq_true V) q9052) (by kernel_rfl) (by kernel_rfl)
       ·refine aA fun E5 E6=>?_;refine aA fun E7 E8=>?_;refine aA fun J7 E9=>?_;refine aA fun F0 F1=>?_;obtain rfl:=dY F1;refine aA fun F2 F3=>?_;refine aA fun o F4=>?_;obtain⟨F5,F6,F7⟩:=o;refine aA fun F8 F9=>?_;refine aA fun J8 G0=>?_;refine aA fun o G1=>?_;obtain⟨G2,G3⟩:=o;obtain rfl:=cL G1;intro h;obtain rfl:=cB h;exact aL (hs:=[.bM a b,.run 1,.bM c d,.run 1,.val e,.val (.int .i64 f),.aJ,.dec false,.run 1,.aJ,.dec false,.run 1,.aJ,.dec false,.run 1,.aJ,.dec false,.run 1,.aJ,.dec false,.run 1,.aJ,.run 1,.rX [1,2,3,5] .normal [(3,i)] j,.val k,.val (.bool l),.eE [1,2,3,104] .normal [(3,m)] p,.val q,.val (.bool s),.eE [1,2,3,110] .normal [(3,t)] u,.run 1,.val v,.val (aN w x y z A B C D E F),.call G H,.bM I g,.run 1,.val J,.val (.str K),.dec true,.eE [1,2,3,122] .normal [(3,d9)] e0,.val e1,.val (.bool e2),.eE [1,2,3,131] .normal [(3,e3)] M,.val e4,.val (.int .i64 e5),.dec false,.eE [1,2,3,138] .normal [(3,E5)] M,.val E7,.val (.str F0),.val (.str F2),.run 1,.call (dJ F5 F6) F7,.bM AV.undef F8,.val (dJ G2 G3)]) (by kernel_rfl) (aK G0<|aK (aP F9)<|aK (aX (n+16004) F4)<|aK (jF F3)<|aK E9<|aK E8<|aK (kK n M E6)<|aK (decide_eq_false V) q9052) (by kernel_rfl) (by kernel_rfl)
structure As where
 n:Nat
 f11:List UInt8→AV→St→Option (List UInt8×St)
def As.ok (R:As)(n:Nat):Prop:=(∀ m,n≤m→ ∀(a0:List UInt8) (a1:AV) (st:St) (r:List UInt8×St),R.f11 a0 a1 st=some r→b7 (aR C0 cK R.n m) false 11 [(.agg [.str a0,a1])] st (.str r.1) r.2)
theorem As.ok.Mf {R:As}{n:Nat}(h:R.ok n):(∀ m,n≤m→ ∀(a0:List UInt8) (a1:AV) (st:St) (r:List UInt8×St),R.f11 a0 a1 st=some r→b7 (aR C0 cK R.n m) false 11 [(.agg [.str a0,a1])] st (.str r.1) r.2):=h
noncomputable def iD (R:As)(b:AV)(c:List UInt8)(d:Int)(a:St):Option (List UInt8×St):=
 (shift b 1).bind fun e=>
 (loadAt C0.P a 44 e).bind fun f=>
 (cV C0.P 44 f (.int .i64 d)).bind fun g=>
 (loadAt C0.P a 46 g).bind fun h=>
 (dF h).bind fun(i,j)=>
 (R.f11 i j a).bind fun(k,l)=>
 (oC [32] k).bind fun m=>
 (oC c m).bind fun n=>
 some (n,l)
theorem rC {R:As}(n:Nat)(hR:R.ok n){b:AV}{c:List UInt8}{d:Int}{a:St}{r:List UInt8×St}(h:iD R b c d a=some r):
 cM 26 (bN C0 (aR C0 cK R.n n) 11 R.n none (aQ C0.P 11 [1,1,0,1,0,0,1,0])) (bG (aQ C0.P 11 [1,1,0,1,0,0,1,0])) [(1,b),(3,(.str c)),(4,(.int .i64 d))] a .normal [(3,.str r.1)] r.2:=by
 revert h;unfold iD;refine aA fun g i=>?_;refine aA fun j k=>?_;refine aA fun l m=>?_;refine aA fun z p=>?_;refine aA fun o q=>?_;obtain⟨e,f⟩:=o;obtain rfl:=cL q;refine aA fun o s=>?_;obtain⟨t,u⟩:=o;refine aA fun v w=>?_;refine aA fun x y=>?_;intro h;obtain rfl:=cB h;exact aO (hs:=[.aJ,.run 1,.val g,.val j,.run 1,.val l,.val (dJ e f),.call (.str t) u,.val (.str v),.val (.str x),.run 1]) (want:=[3]) (by kernel_rfl) (aK (jF y)<|aK (jF w)<|aK (hR.Mf n (by omega) e f a _ s)<|aK p<|aK m<|aK k<|aK i gD)
noncomputable def fA (R:As)(a:AV):Nat→List UInt8→Int→St→Option ((List UInt8×St))
 | 0,_,_,_=>none
 | r + 1, d, b, c =>
   (shift a 1).bind fun e=>
   (loadAt C0.P c 44 e).bind fun f=>
   (lenOf f).bind fun n5709=>
   if(b<(n5709:Int)) then
    (iD R a d b c).bind fun(g,h)=>
    fA R a r g (IntKind.wrap .i64 (b+1)) h
   else
    some (d,c)
noncomputable def kP (o:(List UInt8×St)):cZ×List (Nat×AV)×St:=match o with
 | (a0,a1)=>((.exit 0),[(3,.str a0)],a1)
theorem sM (R:As)(n:Nat)(hR:R.ok n)(f:AV):∀(r:Nat) (b:List UInt8) (a:Int) (c:St) (o:(List UInt8×St)),fA R f r b a c=some o →
 cM 26 (lO (fun fr k=>bN C0 (aR C0 cK R.n n) 11 R.n none (aQ C0.P 11 [1,1,0,1,0,0]) fr k) r) (bG (aQ C0.P 11 [1,1,0,1,0,0])) [(1,f),(3,(.str b)),(4,(.int .i64 a))] c (kP o).1 (kP o).2.1 (kP o).2.2:=by
 intro r
 induction r with
 | zero=>intro b a c o h; exact nomatch h
 | succ r ih =>
   intro b a c o
   unfold fA;refine aA fun g i=>?_;refine aA fun j l=>?_;refine aA fun n5709 m=>?_;refine bD (fun d=>?_) (fun d=>?_)
   ·refine aA fun o s=>?_;obtain⟨p,q⟩:=o;intro h;exact dP (aO (hs:=[.run 1,.val g,.val j,.val (.int .i64 (n5709:Int)),.dec true,.aJ,.rX [1,3,4] .normal [(3,(.str p))] q,.run 3]) (want:=[1,3,4]) (by kernel_rfl) (.cons (rC n hR s)<|.cons (decide_eq_true d)<|.cons (fD (P:=C0.P) (t:=44) (e:=46) (by kernel_rfl) m)<|.cons l<|.cons i .nil)) (ih p (IntKind.wrap .i64 (a+1)) q _ h)
   ·intro h;obtain rfl:=cB h;exact cF (aO (hs:=[.run 1,.val g,.val j,.val (.int .i64 (n5709:Int)),.dec false,.aJ]) (want:=[3]) (by kernel_rfl) (.cons (decide_eq_false d)<|.cons (fD (P:=C0.P) (t:=44) (e:=46) (by kernel_rfl) m)<|.cons l<|.cons i .nil)) (by kernel_rfl)
noncomputable def jH (R:As)(a:AV)(b:List UInt8)(c:St):Option (List UInt8×St):=
 (fA R a R.n b 0 c).bind fun(d,e)=>
 some (d,e)
theorem tB {R:As}(n:Nat)(hR:R.ok n){a:AV}{b:List UInt8}{c:St}{r:List UInt8×St}(h:jH R a b c=some r):
 cM 26 (bN C0 (aR C0 cK R.n n) 11 R.n none (aQ C0.P 11 [1,1,0,1])) (bG (aQ C0.P 11 [1,1,0,1])) [(1,a),(3,(.str b)),(4,(.int .i64 0))] c .normal [(3,.str r.1)] r.2:=by
 revert h;unfold jH;refine aA fun o d=>?_;obtain⟨e,f⟩:=o;intro h;obtain rfl:=cB h;exact aO (hs:=[.aJ,.abs [1,3,4] (.exit 0) [(3,(.str e))] f]) (want:=[3]) (by kernel_rfl) (aK (cW (sM R n hR a R.n b 0 c _ d)) gD)
noncomputable def j9 (R:As)(c:List UInt8)(d:AV)(e:St):Option (List UInt8×St):=
 (qP 46 (.agg [(.str c),d]) e).bind fun(a,b)=>
 (shift a 0).bind fun f=>
 (loadAt C0.P b 9 f).bind fun g=>
 (iZ g).bind fun h=>
 (oC [40] h).bind fun i=>
 (jH R a i b).bind fun(j,k)=>
 (oC j [41]).bind fun l=>
 some (l,k)
theorem rD {R:As}(n:Nat)(hR:R.ok n){a:List UInt8}{b:AV}{c:St}{r:List UInt8×St}(h:j9 R a b c=some r):
 b7 (aR C0 cK R.n (n+1)) false 11 [(.agg [(.str a),b])] c (.str r.1) r.2:=by
 revert h;unfold j9;refine aA fun o d=>?_;obtain⟨e,f⟩:=o;refine aA fun g i=>?_;refine aA fun w j=>?_;refine aA fun k l=>?_;obtain rfl:=dY l;refine aA fun m p=>?_;refine aA fun o q=>?_;obtain⟨s,t⟩:=o;refine aA fun u v=>?_;intro h;obtain rfl:=cB h;exact aL (hs:=[.bM e f,.run 1,.val g,.val (.str k),.val (.str m),.run 2,.rX [1,3,4] .normal [(3,(.str s))] t,.run 1,.val (.str u),.run 1]) (by kernel_rfl) (aK (jF v)<|aK (tB n hR q)<|aK (jF p)<|aK j<|aK i<|aK (xK d) gD) (by kernel_rfl) (by kernel_rfl)
noncomputable def LM (R:Nat):Nat→As
 | 0=>⟨R,(fun _ _ _=>none)⟩
 | k+1=>⟨R,(fun a0 a1 st=>j9 (LM R k) a0 a1 st)⟩
theorem GO (R:Nat):∀ k,(LM R k).n=R
 | 0=>rfl
 | _+1=>rfl
theorem Je (R:Nat):∀ k n,1 * k≤n→(LM R k).ok n
 | 0,n,_=>(fun _ _ _ _ _ _ h=>nomatch h)
 | k + 1, n, hn =>
   fun m hm a0 a1 st r h=>by
    obtain⟨j,rfl⟩:∃ j,m=j+1:=⟨m - 1,by omega⟩
    have:=rD j (Je R k j (by omega)) h
    rw[GO] at this
    exact this
noncomputable def eH (R:Nat)(a0:List UInt8)(a1:AV)(st:St):Option (List UInt8×St):=j9 (LM R 4000) a0 a1 st
theorem j8 {R:Nat}(n:Nat){a0:List UInt8}{a1:AV}{st:St}{r:List UInt8×St}(h:eH R a0 a1 st=some r):b7 (aR C0 cK R (n+4001)) false 11 [(.agg [.str a0,a1])] st (.str r.1) r.2:=by
 have:=rD (n+4000) (Je R 4000 _ (by omega)) h
 rw[GO] at this
 exact this
end
end Go.Proofs.YthodfojhbbendaaDoor
end
