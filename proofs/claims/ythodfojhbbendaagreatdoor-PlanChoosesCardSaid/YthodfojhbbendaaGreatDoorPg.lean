/- PlanChooses, part 7 of 11 of its proof (what is proved: whatever the text is, the law answers true; conditions: those each theorem states). Joined and shortened by a program. In order: SynC | SynD | SynE | SynF | SynG | SynH -/
import Derived.Test.YthodfojhbbendaaGreatDoorPf
section
set_option linter.all false
set_option maxRecDepth 100000
namespace Go.Proofs.YthodfojhbbendaaGreatDoor
open Go Go.Ev
noncomputable section
theorem n7 {α β:Type}{a b:Option α}{k:α→Option β}(h:a=b):Option.bind a k=Option.bind b k:=by rw[h]
theorem sW {α:Type}{c d:Prop}[Decidable c][Decidable d]{a b:α}(h:c=d):ite c a b=ite d a b:=by
 subst h
 congr
attribute [local congr] n7 sW
theorem QX {t u cs n}(h:cs.length=n):PI (.some (.cells t u cs)) 0 n=.some (.agg cs):=by
 subst h
 rw[Qd (by omega),List.drop_zero,List.take_length]
theorem QR {st:St}{id t u cs vs}(h:vs.length=cs.length):Mc st id (.some (.cells t u cs)) 0 vs=.some (st.put id (.cells t u vs)):=by
 rw[Gv (by omega)]
 simp only[dJ,List.take_zero,List.nil_append,Nat.zero_add,h,List.drop_length,List.append_nil]
theorem QP {st:St}{id t u cs off}{v:AV}(h:off<cs.length):Mc st id (.some (.cells t u cs)) off [v]=.some (st.put id (.cells t u (cs.set off v))):=by
 rw[Gv (by simp; omega)]
 simp only[dJ,List.length_cons,List.length_nil]
 rw[List.set_eq_take_append_cons_drop,if_pos h]
 simp
theorem Qv {T:TypeId}{g:Bool}[L:nT C0.P T g 1]{st:St}{id off:Nat}{k:IntKind}{n:Int}:storeAt C0.P st T (.ref id off) (.int k n)=Mc st id (st.aS.get id) off [.int k n]:=Pz rfl rfl
theorem RB {T:TypeId}{g:Bool}[L:nT C0.P T g 1]{st:St}{id off:Nat}{s:List UInt8}:storeAt C0.P st T (.ref id off) (.str s)=Mc st id (st.aS.get id) off [.str s]:=Pz rfl rfl
theorem Qx {T:TypeId}{g:Bool}[L:nT C0.P T g 1]{st:St}{id off:Nat}{b:Bool}:storeAt C0.P st T (.ref id off) (.bool b)=Mc st id (st.aS.get id) off [.bool b]:=Pz rfl rfl
theorem Qu {T:TypeId}{g:Bool}{n:Nat}[L:nT C0.P T g n]{st:St}{id off:Nat}{cs:List AV}(hn:cs.length=n)(ho:cs.all AV.one=true):storeAt C0.P st T (.ref id off) (.agg cs)=Mc st id (st.aS.get id) off cs:=Pz hn ho
theorem BD {v:AV}(h:v.one=true):v.cells=[v]:=by
 cases v <;> first | rfl | (cases h)
theorem Qj {T:TypeId}{g:Bool}[L:nT C0.P T g 1]{st:St}{id off:Nat}{v:AV}(h:v.one=true):storeAt C0.P st T (.ref id off) v=Mc st id (st.aS.get id) off [v]:=by
 rw[Pz (by rw[BD h]; rfl) (by rw[BD h]; simp[h]),BD h]
theorem Kq {k:IntKind}{n:Int}:(AV.int k n).one=true:=rfl
theorem P3 {s:List UInt8}:(AV.str s).one=true:=rfl
theorem PQ {b:Bool}:(AV.bool b).one=true:=rfl
theorem Q9:AV.aF.one=true:=rfl
theorem Ox {a b:Nat}:(AV.ref a b).one=true:=rfl
theorem QN {a b c d:Nat}{e:Option Nat}{f:List AV}:(AV.sl a b c d e f).one=true:=rfl
theorem OM {v:AV}(h:v.one=true):Ar v=.some ():=if_pos h
def cD:=And.intro @Qa<|And.intro @Pf<|And.intro @HE<|And.intro @NG<|And.intro @aB<|And.intro @aE<|And.intro @KZ<|@M8
def aX:=And.intro @Option.bind_some.{0,0}<|And.intro @R4<|And.intro @Qe<|And.intro @Pm<|And.intro @Pd<|And.intro @Qy<|And.intro @R8<|And.intro @R1<|And.intro @QZ<|And.intro @QX<|And.intro @Qv<|And.intro @RB<|And.intro @Qx<|And.intro @Qu<|And.intro @OM<|And.intro @QR<|And.intro @QP<|And.intro @R9<|And.intro @R7<|And.intro @R2<|And.intro @Qr<|And.intro @Int.natCast_zero<|And.intro @Qa<|And.intro @Pf<|And.intro @HE<|And.intro @NG<|And.intro @aB<|And.intro @aE<|And.intro @KZ<|And.intro @M8<|And.intro @List.getElem?_cons_succ.{0}<|And.intro @List.getElem?_cons_zero.{0}<|And.intro @List.set_cons_succ.{0}<|And.intro @List.set_cons_zero.{0}<|And.intro @List.length_cons.{0}<|And.intro @List.length_nil.{0}<|And.intro @List.take_succ_cons.{0}<|And.intro @List.take_zero.{0}<|And.intro @List.drop_succ_cons.{0}<|And.intro @List.drop_zero.{0}<|And.intro @List.nil_append.{0}<|And.intro @List.cons_append.{0}<|@Nat.zero_add
def aL:=And.intro @List.all_cons.{0}<|And.intro @List.all_nil.{0}<|And.intro @Kq<|And.intro @P3<|And.intro @PQ<|And.intro @Q9<|And.intro @Ox<|And.intro @QN<|And.intro @Bool.and_true<|@Bool.true_and
abbrev W:=Int×List UInt8×Int
def Bw (w:W):List AV:=[.int .i64 w.1,.str w.2.1,.int .i64 w.2.2]
def lR (l:List W):List AV:=l.flatMap Bw
theorem Am (l:List W):(lR l).length=l.length * 3:=by
 induction l with
 | nil=>rfl
 | cons w l ih=>show(Bw w ++ lR l).length=_; rw[List.length_append,ih]; simp[Bw]; omega
theorem CD:∀(l:List W) (i:Nat),(lR l).drop (i * 3)=lR (l.drop i)
 | l,0=>by simp
 | [],i+1=>by simp[lR]
 | w :: l, i + 1 => by
   rw[List.drop_succ_cons,← CD l i,show(i+1) * 3=i * 3+1+1+1 by omega]
   rfl
def wd (ws:List W)(i:Nat):W:=(ws[i]?).getD (0,[],0)
theorem Nj {ws:List W}{i:Nat}(h:i<ws.length):ws.drop i=wd ws i :: ws.drop (i+1):=by
 rw[List.drop_eq_getElem_cons h,wd,List.getElem?_eq_getElem h]; rfl
instance RI:xO C0.P 121 3:=⟨⟨129,32,.agg [.int .i64 0,.str [],.int .i64 0],by kernel_rfl,by kernel_rfl,by kernel_rfl,by kernel_rfl,by omega,by omega,by kernel_rfl,by kernel_rfl⟩⟩
theorem Jh {ws:List W}{x:AV}{i:Nat}(h:Row 3 x (lR ws))(hi:i<ws.length):bA C0.P 121 x (.int .i64 (i:Int))=.some (.pM (.int .i64 (wd ws i).1 :: .str (wd ws i).2.1 :: .int .i64 (wd ws i).2.2 :: lR (ws.drop (i+1)))):=by
 rw[mM h (by rw[Am]; omega),CD,Nj hi]; rfl
theorem Q3 {st:St}{a b c:AV}{l:List AV}:loadAt C0.P st 129 (.pM (a :: b :: c :: l))=.some (.agg [a,b,c]):=by
 rw[Hm (by simp)]; rfl
theorem Qq {a b c:AV}{l:List AV}:shift (.pM (a :: b :: c :: l)) 2=.some (.pM (c :: l)):=by
 simp only[shift,List.length_cons,List.drop_succ_cons,List.drop_zero]
 rw[eW (Nat.ble_eq_true_of_le (by omega))]
theorem v3 {st:St}{a:AV}{l:List AV}:loadAt C0.P st 3 (.pM (a :: l))=.some a:=Em
theorem Row.one {sz:Nat}{x:AV}{cells:List AV}(h:Row sz x cells):x.one=true:=by
 rcases h with⟨rfl,_⟩ | ⟨id,e,len,cap,rfl,_⟩ <;> rfl
structure Wf (ws:List W):Prop where
 more:∀ i,i<ws.length→(wd ws i).1≠0→i+1<ws.length
 short:∀ i,(wd ws i).2.1.length≤2000
 Pc:ws.length≤2001
 num:∀ i,(wd ws i).1=3→(sB (wd ws i).2.1).isSome=true
structure Z where
 i:Nat
 d:Int
 n:Int
 e:Int
def PS (ws:List W)(st:St)(p:Nat)(z:Z):Prop:=∃ x a t u,st.aS.get p=.some (.cells t u [x,.int .i64 z.i,.int .i64 z.d,.int .i64 z.n,.int .i64 a,.int .i64 z.e])∧Row 3 x (lR ws)∧z.i<ws.length∧p<st.next
def KP (p q:Nat)(st st':St):Prop:=st.next≤st'.next∧(∀ i,i<st.next→i≠p→i≠q→st'.aS.get i=st.aS.get i)∧st'.old=st.old
theorem KP.refl {p q:Nat}{st:St}:KP p q st st:=⟨Nat.le_refl _,fun _ _ _ _=>rfl,rfl⟩
theorem KP.trans {p q:Nat}{a b c:St}(h:KP p q a b)(k:KP p q b c):KP p q a c:=
 ⟨Nat.le_trans h.1 k.1,fun i hi hp hq=>(k.2.1 i (Nat.lt_of_lt_of_le hi h.1) hp hq).trans (h.2.1 i hi hp hq),k.2.2.trans h.2.2⟩
theorem KP.push {p q:Nat}{st:St}{o:gS}:KP p q st (st.push o):=⟨Nat.le_succ _,fun i hi _ _=>Pf (by omega),rfl⟩
theorem KP.put {p q id:Nat}{st:St}{o:gS}(h:id=p∨id=q∨st.next≤id):KP p q st (st.put id o):=⟨Nat.le_refl _,fun i hi _ _=>NG (by omega),rfl⟩
theorem KP.dX {p q:Nat}{st s:St}{o:gS}(h:KP p q st s):KP p q st (s.push o):=h.trans KP.push
theorem KP.loc {p q id:Nat}{st s:St}{o:gS}(h:KP p q st s)(hi:id=p∨id=q∨st.next≤id):KP p q st (s.put id o):=
 ⟨h.1,fun i h1 h2 h3=>(NG (by omega)).trans (h.2.1 i h1 h2 h3),h.2.2⟩
theorem KP.le {p q:Nat}{st s:St}(h:KP p q st s):st.next≤s.next:=h.1
theorem KP.get {p q i:Nat}{st s:St}(h:KP p q st s)(h1:i<st.next)(h2:i≠p)(h3:i≠q):s.aS.get i=st.aS.get i:=h.2.1 i h1 h2 h3
theorem PS.push {ws:List W}{st:St}{p:Nat}{z:Z}(h:PS ws st p z)(o:gS):PS ws (st.push o) p z:=by
 obtain⟨x,a,t,u,hg,hr,hi,hp⟩:=h
 exact⟨x,a,t,u,by rw[Pf (by omega),hg],hr,hi,Nat.lt_succ_of_lt hp⟩
theorem PS.put {ws:List W}{st:St}{p id:Nat}{z:Z}(h:PS ws st p z)(o:gS)(hn:id≠p):PS ws (st.put id o) p z:=by
 obtain⟨x,a,t,u,hg,hr,hi,hp⟩:=h
 exact⟨x,a,t,u,by rw[NG (by omega),hg],hr,hi,hp⟩
theorem PS.lt {ws:List W}{st:St}{p:Nat}{z:Z}(h:PS ws st p z):p<st.next:=by
 obtain⟨x,a,t,u,hg,hr,hi,hp⟩:=h
 exact hp
def qD (z:Z)(e:Int):Z:=if z.e=0 then{ z with e:=e } else z
def LB (ws:List W)(z:Z)(k:Int)(s:List UInt8):Bool:=decide (z.e=0∧(wd ws z.i).1=k∧(wd ws z.i).2.1=s)
def sL (z:Z):Z:={ z with i:=z.i+1 }
def vB (ws:List W)(z:Z)(k:Int)(s:List UInt8):Bool×Z:=if LB ws z k s=true then(true,sL z) else(false,z)
abbrev sR (ws:List W)(z:Z)(s:List UInt8):=vB ws z 2 s
abbrev nA (ws:List W)(z:Z)(s:List UInt8):=vB ws z 6 s
def oC (ws:List W)(z:Z)(k:Int)(s:List UInt8):Z:=if LB ws z k s=true then sL z else qD z 120
def lO (ws:List W)(z:Z):List UInt8×Z:=if z.e=0∧(wd ws z.i).1=1 then((wd ws z.i).2.1,sL z) else([],qD z 120)
def y6 (z:Z):Z:={ z with n:=IntKind.wrap .i64 (z.n+1) }
def gG (z:Z):Z:=if(y6 z).n>200 then qD (y6 z) 3 else y6 z
def Av (z:Z):Z:={ z with d:=IntKind.wrap .i64 (z.d+1) }
def cN (z:Z):Z:=if(Av z).d>24 then qD (Av z) 3 else Av z
def F8 (z:Z):Z:={ z with d:=IntKind.wrap .i64 (z.d - 1) }
theorem PS.of {ws:List W}{st:St}{p t:Nat}{u:Bool}{x:AV}{i:Nat}{d n a e:Int}(hg:st.aS.get p=.some (.cells t u [x,.int .i64 i,.int .i64 d,.int .i64 n,.int .i64 a,.int .i64 e]))(hr:Row 3 x (lR ws))(hi:i<ws.length)(hp:p<st.next):PS ws st p ⟨i,d,n,e⟩:=⟨x,a,t,u,hg,hr,hi,hp⟩
theorem FO {ws:List W}{i:Nat}(W:Wf ws)(hi:i<ws.length):IntKind.wrap .i64 ((i:Int)+1)=((i+1:Nat):Int):=by
 have:=W.Pc
 rw[wrap64 (by omega) (by omega)]; omega
theorem A2 {ws:List W}{st:St}{p:Nat}{z:Z}{R:Nat}{e:Int}{φ:St→Prop}(hP:PS ws st p z)
 (hφ:∀ st1,PS ws st1 p (qD z e)→KP p p st st1→st1.next=st.next→φ st1):T φ (bV R (.ref p 0) e st):=by
 obtain⟨x,a,t,u,hg,hr,hi,hp⟩:=hP
 unfold bV
 simp(disch:=(first | ((repeat(first | rw[aB] | rw[aE] | rw[List.length_cons] | rw[List.length_nil])) <;> omega) | (refine(?_:_∧True).1; constructor; simp only[aL, *]; exact True.intro))) only[aX,hg]
 by_cases h:z.e=0
 ·rw[if_pos h]
  simp(disch:=(first | ((repeat(first | rw[aB] | rw[aE] | rw[List.length_cons] | rw[List.length_nil])) <;> omega) | (refine(?_:_∧True).1; constructor; simp only[aL, *]; exact True.intro))) only[aX,hg,Jh hr hi,Qq,v3]
  refine T.some (hφ _ ?_ ?_ rfl)
  ·rw[show qD z e=⟨z.i,z.d,z.n,e⟩ from if_pos h]
   exact PS.of (HE rfl) hr hi hp
  ·exact(KP.put (.inl rfl)).trans (KP.put (.inl rfl))
 ·rw[if_neg h]
  refine T.some (hφ _ ?_ KP.refl rfl)
  rw[show qD z e=z from if_neg h]
  exact⟨x,a,t,u,hg,hr,hi,hp⟩
theorem Py {ws : List W} {st : St} {p : Nat} {z : Z} {R : Nat} {k : Int} {s : List UInt8} {φ : Bool × St → Prop} (hP : PS ws st p z)
 (hφ:∀ st1,PS ws st1 p z→KP p p st st1→φ (LB ws z k s,st1)):T φ (kN R (.ref p 0) k s st):=by
 have hP0:=hP
 obtain⟨x,a,t,u,hg,hr,hi,hp⟩:=hP
 unfold kN
 simp(disch:=(first | ((repeat(first | rw[aB] | rw[aE] | rw[List.length_cons] | rw[List.length_nil])) <;> omega) | (refine(?_:_∧True).1; constructor; simp only[aL, *]; exact True.intro))) only[aX,hg,Jh hr hi,Q3]
 have hP1:=(hP0.push (.cells 129 true [.int .i64 0,.str [],.int .i64 0])).put (id:=st.next) (.cells 129 true [.int .i64 (wd ws z.i).1,.str (wd ws z.i).2.1,.int .i64 (wd ws z.i).2.2]) (by omega)
 have hK:KP p p st ((st.push (.cells 129 true [.int .i64 0,.str [],.int .i64 0])).put st.next (.cells 129 true [.int .i64 (wd ws z.i).1,.str (wd ws z.i).2.1,.int .i64 (wd ws z.i).2.2])):=KP.refl.dX.loc (.inr (.inr (Nat.le_refl _)))
 by_cases h:z.e=0
 ·rw[if_pos h]
  by_cases h1:(wd ws z.i).1=k
  ·rw[if_pos h1]
   by_cases h2:(wd ws z.i).2.1=s
   ·rw[if_pos h2]
    refine T.some ?_
    have:=hφ _ hP1 hK
    rwa [show LB ws z k s=true from decide_eq_true ⟨h,h1,h2⟩] at this
   ·rw[if_neg h2]
    refine T.some ?_
    have:=hφ _ hP1 hK
    rwa [show LB ws z k s=false from decide_eq_false (fun h=>h2 h.2.2)] at this
  ·rw[if_neg h1]
   refine T.some ?_
   have:=hφ _ hP1 hK
   rwa [show LB ws z k s=false from decide_eq_false (fun h=>h1 h.2.1)] at this
 ·rw[if_neg h]
  refine T.some ?_
  have:=hφ _ hP1 hK
  rwa [show LB ws z k s=false from decide_eq_false (fun h'=>h h'.1)] at this
theorem F2 {ws:List W}{z:Z}{k:Int}{s:List UInt8}(h:LB ws z k s=true):z.e=0∧(wd ws z.i).1=k∧(wd ws z.i).2.1=s:=of_decide_eq_true h
theorem yP {ws:List W}{st:St}{p:Nat}{z z1:Z}{b:Bool}{R:Nat}{s:List UInt8}{φ:Bool×St→Prop}(W:Wf ws)(hP:PS ws st p z)(hb:sR ws z s=(b,z1))
 (hφ:∀ st1,PS ws st1 p z1→KP p p st st1→φ (b,st1)):T φ (bW R (.ref p 0) s st):=by
 unfold bW
 refine T.bind (Py hP fun st1 h1 k1=>?_)
 simp only[sR,vB] at hb
 by_cases h:LB ws z 2 s=true
 ·rw[if_pos h] at hb
  obtain⟨rfl,rfl⟩:=Prod.mk.inj hb
  obtain⟨x,a,t,u,hg,hr,hi,hp⟩:=h1
  simp only[if_pos h]
  simp(disch:=(first | ((repeat(first | rw[aB] | rw[aE] | rw[List.length_cons] | rw[List.length_nil])) <;> omega) | (refine(?_:_∧True).1; constructor; simp only[aL, *]; exact True.intro))) only[aX,hg,FO W hi]
  obtain⟨h2,h3,h4⟩:=F2 h
  exact T.some (hφ _ (PS.of (HE rfl) hr (W.more _ hi (by rw[h3]; decide)) hp) (k1.loc (.inl rfl)))
 ·rw[if_neg h] at hb
  obtain⟨rfl,rfl⟩:=Prod.mk.inj hb
  simp only[if_neg h]
  exact T.some (hφ _ h1 k1)
theorem As {ws:List W}{st:St}{p:Nat}{z z1:Z}{b:Bool}{R:Nat}{s:List UInt8}{φ:Bool×St→Prop}(W:Wf ws)(hP:PS ws st p z)(hb:nA ws z s=(b,z1))
 (hφ:∀ st1,PS ws st1 p z1→KP p p st st1→φ (b,st1)):T φ (dD R (.ref p 0) s st):=by
 unfold dD
 refine T.bind (Py hP fun st1 h1 k1=>?_)
 simp only[nA,vB] at hb
 by_cases h:LB ws z 6 s=true
 ·rw[if_pos h] at hb
  obtain⟨rfl,rfl⟩:=Prod.mk.inj hb
  obtain⟨x,a,t,u,hg,hr,hi,hp⟩:=h1
  simp only[if_pos h]
  simp(disch:=(first | ((repeat(first | rw[aB] | rw[aE] | rw[List.length_cons] | rw[List.length_nil])) <;> omega) | (refine(?_:_∧True).1; constructor; simp only[aL, *]; exact True.intro))) only[aX,hg,FO W hi]
  obtain⟨h2,h3,h4⟩:=F2 h
  exact T.some (hφ _ (PS.of (HE rfl) hr (W.more _ hi (by rw[h3]; decide)) hp) (k1.loc (.inl rfl)))
 ·rw[if_neg h] at hb
  obtain⟨rfl,rfl⟩:=Prod.mk.inj hb
  simp only[if_neg h]
  exact T.some (hφ _ h1 k1)
theorem Oc {ws:List W}{st:St}{p:Nat}{z z1:Z}{R:Nat}{s:List UInt8}{φ:List UInt8×St→Prop}(W:Wf ws)(hP:PS ws st p z)(hb:lO ws z=(s,z1))
 (hφ:∀ st1,PS ws st1 p z1→KP p p st st1→φ (s,st1)):T φ (eC R (.ref p 0) st):=by
 have hP0:=hP
 obtain⟨x,a,t,u,hg,hr,hi,hp⟩:=hP
 unfold eC
 simp(disch:=(first | ((repeat(first | rw[aB] | rw[aE] | rw[List.length_cons] | rw[List.length_nil])) <;> omega) | (refine(?_:_∧True).1; constructor; simp only[aL, *]; exact True.intro))) only[aX,hg,Jh hr hi,Q3]
 have hP1:=(hP0.push (.cells 129 true [.int .i64 0,.str [],.int .i64 0])).put (id:=st.next) (.cells 129 true [.int .i64 (wd ws z.i).1,.str (wd ws z.i).2.1,.int .i64 (wd ws z.i).2.2]) (by omega)
 have hK:KP p p st ((st.push (.cells 129 true [.int .i64 0,.str [],.int .i64 0])).put st.next (.cells 129 true [.int .i64 (wd ws z.i).1,.str (wd ws z.i).2.1,.int .i64 (wd ws z.i).2.2])):=KP.refl.dX.loc (.inr (.inr (Nat.le_refl _)))
 simp only[lO] at hb
 by_cases h:z.e=0∧(wd ws z.i).1=1
 ·rw[if_pos h] at hb
  obtain⟨rfl,rfl⟩:=Prod.mk.inj hb
  rw[if_pos h.1,if_pos h.2]
  simp(disch:=(first | ((repeat(first | rw[aB] | rw[aE] | rw[List.length_cons] | rw[List.length_nil])) <;> omega) | (refine(?_:_∧True).1; constructor; simp only[aL, *]; exact True.intro))) only[aX,hg,FO W hi]
  exact T.some (hφ _ (PS.of (HE rfl) hr (W.more _ hi (by rw[h.2]; decide)) (Nat.lt_succ_of_lt hp)) (hK.loc (.inl rfl)))
 ·rw[if_neg h] at hb
  obtain⟨rfl,rfl⟩:=Prod.mk.inj hb
  by_cases h1:z.e=0
  ·rw[if_pos h1,if_neg (fun h2=>h ⟨h1,h2⟩)]
   refine T.bind (A2 hP1 fun st1 h1 k1 _=>?_)
   exact T.some (hφ _ h1 (hK.trans k1))
  ·rw[if_neg h1]
   refine T.bind (A2 hP1 fun st1 h1 k1 _=>?_)
   exact T.some (hφ _ h1 (hK.trans k1))
theorem E4 {ws:List W}{st:St}{p:Nat}{z:Z}{R:Nat}{φ:List UInt8×St→Prop}(W:Wf ws)(hP:PS ws st p z)
 (hφ:∀ st1,PS ws st1 p (lO ws z).2→KP p p st st1→φ ((lO ws z).1,st1)):T φ (eC R (.ref p 0) st):=Oc W hP (s:=(lO ws z).1) (z1:=(lO ws z).2) rfl hφ
def DL (ws : List W) : Nat → List UInt8 → Z → Option (List UInt8 × Z)
 | 0,_,_=>none
 | r + 1, s, z => match nA ws z [46] with
   | (true,z1)=>(lB [46] (lO ws z1).1).bind fun a=>(lB s a).bind fun b=>DL ws r b (lO ws z1).2
   | (false,z1)=>.some (s,z1)
def Lt (ws:List W)(R:Nat)(z:Z):Option (List UInt8×Z):=DL ws R (lO ws z).1 (lO ws z).2
theorem Kh {ws:List W}(W:Wf ws){p R:Nat}{φ:List UInt8×St→Prop}:∀(r:Nat) {st:St} {z z1:Z} {s s1:List UInt8},PS ws st p z→DL ws r s z=.some (s1,z1) →
 (∀ st1,PS ws st1 p z1→KP p p st st1→φ (s1,st1))→T φ (fD R (.ref p 0) r s st)
 | 0,_,_,_,_,_,_,hb,_=>by cases hb
 | r + 1, st, z, z1, s, s1, hP, hb, hφ => by
   unfold fD
   unfold DL at hb
   rcases e:nA ws z [46] with⟨b,z2⟩
   rw[e] at hb
   refine T.bind (As W hP e fun st1 h1 k1=>?_)
   cases b with
   | true =>
     simp only[if_true] at hb ⊢
     refine T.bind (E4 W h1 fun st2 h2 k2=>?_)
     obtain⟨a,ha,hb⟩:=Option.bind_eq_some_iff.1 hb
     obtain⟨b,hb1,hb⟩:=Option.bind_eq_some_iff.1 hb
     simp only[ha,hb1,Option.bind_some]
     exact Kh W r h2 hb fun st3 h3 k3=>hφ _ h3 ((k1.trans k2).trans k3)
   | false =>
     obtain⟨rfl,rfl⟩:=Prod.mk.inj (Option.some.inj hb)
     simp only[Bool.false_eq_true,if_false]
     exact T.some (hφ _ h1 k1)
theorem Ow {ws:List W}{st:St}{p:Nat}{z z1:Z}{R:Nat}{s:List UInt8}{φ:List UInt8×St→Prop}(W:Wf ws)(hP:PS ws st p z)(hb:Lt ws R z=.some (s,z1))
 (hφ:∀ st1,PS ws st1 p z1→KP p p st st1→φ (s,st1)):T φ (kT R (.ref p 0) st):=by
 unfold kT jY
 refine T.bind (E4 W hP fun st1 h1 k1=>?_)
 refine T.bind (T.bind (Kh W R h1 hb fun st2 h2 k2=>?_))
 exact T.some (T.some (hφ _ h2 (k1.trans k2)))
end
end Go.Proofs.YthodfojhbbendaaGreatDoor
end
section
set_option linter.all false
set_option maxRecDepth 100000
namespace Go.Proofs.YthodfojhbbendaaGreatDoor
open Go Go.Ev
noncomputable section
attribute [local congr] n7 sW
theorem T.fA {α:Type}{φ:α→Prop}{c:Prop}[Decidable c]{a b:Option α}(h:c)(k:T φ a):T φ (ite c a b):=by rwa [if_pos h]
theorem T.gY {α:Type}{φ:α→Prop}{c:Prop}[Decidable c]{a b:Option α}(h:¬ c)(k:T φ b):T φ (ite c a b):=by rwa [if_neg h]
structure Vl where
 k:Int
 b:Bool
 n:Int
 s:List UInt8
inductive Ex where
 | mk (k:Int) (s:List UInt8) (v:Vl) (kids:List Ex) (names:List (List UInt8))
def Ex.k:Ex→Int | .mk k _ _ _ _=>k
def Ex.s:Ex→List UInt8 | .mk _ s _ _ _=>s
def Ex.v:Ex→Vl | .mk _ _ v _ _=>v
def Ex.kids:Ex→List Ex | .mk _ _ _ l _=>l
def Ex.names:Ex→List (List UInt8) | .mk _ _ _ _ l=>l
def V0:Vl:=⟨0,false,0,[]⟩
inductive RE:Ex→List AV→Prop
 | mk {k:Int} {s:List UInt8} {v:Vl} {kids:List Ex} {names:List (List UInt8)} {kv nv:AV} {kcs:List AV} (h1:Row 10 kv kcs) (h2:Row 1 nv (names.map .str)) (h3:kcs.length=kids.length * 10)
  (h4:∀(j:Nat) (h:j<kids.length),RE kids[j] ((kcs.drop (j * 10)).take 10)):
  RE (.mk k s v kids names) [.int .i64 k,.str s,.int .i64 v.k,.bool v.b,.int .i64 v.n,.str v.s,.aF,.aF,kv,nv]
def uK (e:Ex)(kv nv:AV):List AV:=[.int .i64 e.k,.str e.s,.int .i64 e.v.k,.bool e.v.b,.int .i64 e.v.n,.str e.v.s,.aF,.aF,kv,nv]
def RX (e:Ex)(kv nv:AV):Prop:=RE e (uK e kv nv)
theorem RX.one {e:Ex}{kv nv:AV}(h:RX e kv nv):kv.one=true∧nv.one=true:=by
 unfold RX uK at h
 cases h with
 | mk h1 h2 h3 h4=>exact⟨Row.one h1,Row.one h2⟩
theorem RX.leaf (k:Int)(s:List UInt8)(v:Vl):RX (.mk k s v [] []) .aF .aF:=RE.mk (kcs:=[]) (.inl ⟨rfl,rfl⟩) (.inl ⟨rfl,rfl⟩) rfl (fun j h=>absurd h (Nat.not_lt_zero _))
def AQ (l:List Ex)(kcs:List AV):Prop:=kcs.length=l.length * 10∧ ∀(j:Nat) (h:j<l.length),RE l[j] ((kcs.drop (j * 10)).take 10)
theorem AQ.nil:AQ [] []:=⟨rfl,fun j h=>absurd h (Nat.not_lt_zero _)⟩
theorem AQ.snoc {l:List Ex}{kcs:List AV}{e:Ex}{c:List AV}(h:AQ l kcs)(he:RE e c)(hc:c.length=10):AQ (l ++ [e]) (kcs ++ c):=by
 refine⟨by simp[h.1,hc]; omega,fun j hj=>?_⟩
 rw[List.length_append,List.length_singleton] at hj
 by_cases h1:j<l.length
 ·rw[List.getElem_append_left h1,List.drop_append_of_le_length (by rw[h.1]; omega),List.take_append_of_le_length (by rw[List.length_drop,h.1]; omega)]
  exact h.2 j h1
 ·have e1:j=l.length:=by omega
  subst e1
  rw[List.getElem_append_right (Nat.le_refl _),List.drop_append,List.drop_eq_nil_of_le (by rw[h.1]; omega)]
  simp only[Nat.sub_self,List.getElem_cons_zero,List.nil_append]
  rw[h.1,Nat.sub_self,List.drop_zero,List.take_of_length_le (by omega)]
  exact he
theorem RX.mk {l:List Ex}{kcs:List AV}{kv nv:AV}{names:List (List UInt8)}{k:Int}{s:List UInt8}{v:Vl}(h1:AQ l kcs)(h2:Row 10 kv kcs)(h3:Row 1 nv (names.map .str)):RX (.mk k s v l names) kv nv:=RE.mk h2 h3 h1.1 h1.2
theorem ON {a:Int}{b:List UInt8}{c:Int}{d:Bool}{e:Int}{f:List UInt8}{g h i j:AV}{st:St}(h1:g.one=true)(h2:h.one=true)(h3:i.one=true)(h4:j.one=true):oQ 28 (.agg [(.int .i64 a),(.str b),(.int .i64 c),(.bool d),(.int .i64 e),(.str f),g,h,i,j]) st=.some (.ref st.next 0,st.push (.cells 28 true [(.int .i64 a),(.str b),(.int .i64 c),(.bool d),(.int .i64 e),(.str f),g,h,i,j])):=by
 have:List.all [(.int .i64 a),(.str b),(.int .i64 c),(.bool d),(.int .i64 e),(.str f),g,h,i,j] AV.one=true:=by
  simp only[List.all_cons,List.all_nil,Kq,P3,PQ,h1,h2,h3,h4,Bool.and_self]
 exact if_pos this
theorem Pn {v:AV}{t:TypeId}{st:St}(h:v.one=true):oQ t v st=.some (.ref st.next 0,st.push (.cells t true [v])):=by
 unfold oQ
 rw[BD h]
 exact if_pos (by simp[h])
theorem oU {ws:List W}{st:St}{p:Nat}{z:Z}{R:Nat}{a:Int}{b:List UInt8}{c:Int}{d:Bool}{e:Int}{f:List UInt8}{g h i j:AV}{φ:Int×List UInt8×Int×Bool×Int×List UInt8×AV×AV×AV×AV×St→Prop}
 (hP:PS ws st p z) (h1:g.one=true) (h2:h.one=true) (h3:i.one=true) (h4:j.one=true)
 (hφ:∀ st1,PS ws st1 p (gG z)→KP p p st st1→φ (a,b,c,d,e,f,g,h,i,j,st1)):T φ (bL R (.ref p 0) a b c d e f g h i j st):=by
 obtain⟨x,at',t,u,hg,hr,hi,hp⟩:=hP
 unfold bL
 rw[ON h1 h2 h3 h4]
 simp(disch:=(first | ((repeat(first | rw[aB] | rw[aE] | rw[List.length_cons] | rw[List.length_nil])) <;> omega) | (refine(?_:_∧True).1; constructor; simp only[aL, *]; exact True.intro))) only[aX,hg]
 by_cases hn:IntKind.wrap .i64 (z.n+1)>200
 ·rw[if_pos hn]
  unfold iU
  refine T.bind (T.bind (A2 (ws:=ws) (z:=y6 z) ?_ fun st1 h5 k1 hn1=>?_))
  ·exact PS.of (HE rfl) hr hi (by((try simp only[aB,aE]) <;> omega))
  have k2:=KP.trans (p:=p) (q:=p) (KP.loc (KP.dX (KP.dX KP.refl)) (.inl rfl)) k1
  have g1:=k1.get (i:=st.next) (by((try simp only[aB,aE]) <;> omega)) (by omega) (by omega)
  have g2:=k1.get (i:=st.next+1) (by((try simp only[aB,aE]) <;> omega)) (by omega) (by omega)
  refine T.some ?_
  simp(disch:=(first | ((repeat(first | rw[aB] | rw[aE] | rw[List.length_cons] | rw[List.length_nil])) <;> omega) | (refine(?_:_∧True).1; constructor; simp only[aL, *]; exact True.intro))) only[aX,g1,g2]
  refine T.some (hφ _ ?_ ?_)
  ·rw[show gG z=qD (y6 z) 3 from if_pos hn]
   exact h5.put _ (by omega)
  ·exact k2.loc (.inr (.inr (by omega)))
 ·rw[if_neg hn]
  unfold iG
  simp(disch:=(first | ((repeat(first | rw[aB] | rw[aE] | rw[List.length_cons] | rw[List.length_nil])) <;> omega) | (refine(?_:_∧True).1; constructor; simp only[aL, *]; exact True.intro))) only[aX,hg]
  refine T.some (hφ _ ?_ ?_)
  ·rw[show gG z=y6 z from if_neg hn]
   exact(PS.of (HE rfl) hr hi (by((try simp only[aB,aE]) <;> omega)):PS ws _ p (y6 z)).put _ (by omega)
  ·exact((KP.refl.dX.dX).loc (.inl rfl)).loc (.inr (.inr (by omega)))
theorem M3 {ws:List W}{st:St}{p:Nat}{z:Z}{R:Nat}{φ:AV×St→Prop}(hP:PS ws st p z)
 (hφ:∀ st1 id,PS ws st1 p (cN z)→KP p p st st1→st.next≤id→id<st1.next→st1.aS.get id=.some (.cells 124 true [.ref p 0])→φ (.ref id 0,st1)):T φ (j8 R (.ref p 0) st):=by
 obtain⟨x,a,t,u,hg,hr,hi,hp⟩:=hP
 unfold j8
 rw[Pn Ox]
 simp(disch:=(first | ((repeat(first | rw[aB] | rw[aE] | rw[List.length_cons] | rw[List.length_nil])) <;> omega) | (refine(?_:_∧True).1; constructor; simp only[aL, *]; exact True.intro))) only[aX,hg]
 by_cases hn:IntKind.wrap .i64 (z.d+1)>24
 ·rw[if_pos hn]
  unfold jE
  simp(disch:=(first | ((repeat(first | rw[aB] | rw[aE] | rw[List.length_cons] | rw[List.length_nil])) <;> omega) | (refine(?_:_∧True).1; constructor; simp only[aL, *]; exact True.intro))) only[aX]
  refine T.bind (T.bind (A2 (ws:=ws) (z:=Av z) ?_ fun st1 h5 k1 hn1=>?_))
  ·exact PS.of (HE rfl) hr hi (by((try simp only[aB,aE]) <;> omega))
  have k2:=KP.trans (p:=p) (q:=p) (KP.loc (KP.dX KP.refl) (.inl rfl)) k1
  have g1:=k1.get (i:=st.next) (by((try simp only[aB,aE]) <;> omega)) (by omega) (by omega)
  refine T.some (T.some (hφ _ _ ?_ k2 (Nat.le_refl _) ?_ ?_))
  ·rw[show cN z=qD (Av z) 3 from if_pos hn]
   exact h5
  ·have:=k2.le
   rw[hn1]; ((try simp only[aB,aE]) <;> omega)
  ·rw[g1]; simp(disch:=(first | ((repeat(first | rw[aB] | rw[aE] | rw[List.length_cons] | rw[List.length_nil])) <;> omega) | (refine(?_:_∧True).1; constructor; simp only[aL, *]; exact True.intro))) only[cD]
 ·rw[if_neg hn]
  unfold iR
  refine T.bind (T.some (T.some (hφ _ _ ?_ ?_ (Nat.le_refl _) ?_ ?_)))
  ·rw[show cN z=Av z from if_neg hn]
   exact PS.of (HE rfl) hr hi (by((try simp only[aB,aE]) <;> omega))
  ·exact(KP.refl.dX).loc (.inl rfl)
  ·((try simp only[aB,aE]) <;> omega)
  ·simp(disch:=(first | ((repeat(first | rw[aB] | rw[aE] | rw[List.length_cons] | rw[List.length_nil])) <;> omega) | (refine(?_:_∧True).1; constructor; simp only[aL, *]; exact True.intro))) only[cD]
theorem Dd {ws:List W}{st:St}{p id:Nat}{z:Z}{R:dF}{φ:St→Prop}(hP:PS ws st p z)(hid:st.aS.get id=.some (.cells 124 true [.ref p 0]))
 (hφ:∀ st1,PS ws st1 p (F8 z)→KP p p st st1→φ st1):T φ (cT R (.ref id 0) st):=by
 obtain⟨x,a,t,u,hg,hr,hi,hp⟩:=hP
 unfold cT
 simp(disch:=(first | ((repeat(first | rw[aB] | rw[aE] | rw[List.length_cons] | rw[List.length_nil])) <;> omega) | (refine(?_:_∧True).1; constructor; simp only[aL, *]; exact True.intro))) only[aX,hg,hid]
 exact T.some (hφ _ (PS.of (HE rfl) hr hi hp) (KP.refl.loc (.inl rfl)))
theorem Gu {ws:List W}{st:St}{p:Nat}{z:Z}{R:Nat}{k:Int}{s:List UInt8}{φ:St→Prop}{o:Option (Bool×St)}{f:Bool×St→Option St}
 (ho:∀(φ:Bool×St→Prop),(∀ b z1 st1,vB ws z k s=(b,z1)→PS ws st1 p z1→KP p p st st1→φ (b,st1))→T φ o)
 (hf:∀ b st1,f (b,st1)=if b=true then .some st1 else Option.bind (bV R (.ref p 0) 120 st1) fun st2=>.some st2)
 (hφ:∀ st1,PS ws st1 p (oC ws z k s)→KP p p st st1→φ st1):T φ (Option.bind o f):=by
 refine T.bind (ho _ fun b z1 st1 e h1 k1=>?_)
 rw[hf]
 unfold vB at e
 unfold oC at hφ
 by_cases h:LB ws z k s=true
 ·rw[if_pos h] at e hφ
  obtain⟨rfl,rfl⟩:=Prod.mk.inj e
  rw[if_pos rfl]
  exact T.some (hφ _ h1 k1)
 ·rw[if_neg h] at e hφ
  obtain⟨rfl,rfl⟩:=Prod.mk.inj e
  rw[if_neg (by decide)]
  exact T.bind (A2 h1 fun st2 h2 k2 _=>T.some (hφ _ h2 (k1.trans k2)))
theorem Nk {ws:List W}{st:St}{p:Nat}{z:Z}{R:dF}{s:List UInt8}{φ:St→Prop}(W:Wf ws)(hP:PS ws st p z)
 (hφ:∀ st1,PS ws st1 p (oC ws z 2 s)→KP p p st st1→φ st1):T φ (dG R (.ref p 0) (.ref p 0) s st):=by
 unfold dG
 exact Gu (fun φ h=>yP W hP rfl fun st1=>h _ _ st1 rfl) (fun b st1=>rfl) hφ
theorem E1 {ws:List W}{st:St}{p:Nat}{z:Z}{R:dF}{s:List UInt8}{φ:St→Prop}(W:Wf ws)(hP:PS ws st p z)
 (hφ:∀ st1,PS ws st1 p (oC ws z 6 s)→KP p p st st1→φ st1):T φ (bQ R (.ref p 0) (.ref p 0) s st):=by
 unfold bQ
 exact Gu (fun φ h=>As W hP rfl fun st1=>h _ _ st1 rfl) (fun b st1=>rfl) hφ
theorem Ld {ws:List W}{st:St}{p:Nat}{z:Z}{R:Nat}{s:List UInt8}{φ:St→Prop}(W:Wf ws)(hP:PS ws st p z)
 (hφ:∀ st1,PS ws st1 p (oC ws z 2 s)→KP p p st st1→φ st1):T φ (bT R (.ref p 0) (.ref p 0) s st):=by
 unfold bT
 exact Gu (fun φ h=>yP W hP rfl fun st1=>h _ _ st1 rfl) (fun b st1=>rfl) hφ
def Bi (k:Int)(s:List UInt8):Int:=
 if k=2 then if s=[79,82] then 0 else if s=[65,78,68] then 1 else -1
 else if k=6 then if s=[61]∨s=[60,62]∨s=[60]∨s=[60,61]∨s=[62]∨s=[62,61] then 3 else if s=[43]∨s=[45] then 4 else if s=[42] then 5 else -1
 else -1
theorem PN {ws:List W}{st:St}{p:Nat}{z:Z}{R:Nat}{k a:Int}{s:List UInt8}{φ:Int×St→Prop}(hP:PS ws st p z)
 (hφ:∀ st1,PS ws st1 p z→KP p p st st1→φ (Bi k s,st1)):T φ (tY R k s a st):=by
 have h0:=hφ _ (hP.push (.cells 129 true [.int .i64 k,.str s,.int .i64 a])) (KP.refl.dX)
 unfold tY
 refine T.step (a:=.int .i64 k) (by simp(disch:=(first | ((repeat(first | rw[aB] | rw[aE] | rw[List.length_cons] | rw[List.length_nil])) <;> omega) | (refine(?_:_∧True).1; constructor; simp only[aL, *]; exact True.intro))) only[aX]) ?_
 refine T.step Pm ?_
 unfold Bi at h0
 by_cases h1:k=2
 ·rw[if_pos h1] at h0 ⊢
  refine T.step (a:=.str s) (by simp(disch:=(first | ((repeat(first | rw[aB] | rw[aE] | rw[List.length_cons] | rw[List.length_nil])) <;> omega) | (refine(?_:_∧True).1; constructor; simp only[aL, *]; exact True.intro))) only[aX]) ?_
  refine T.step Pd ?_
  by_cases h2:s=[79,82]
  ·rw[if_pos h2] at h0 ⊢; exact T.some h0
  ·rw[if_neg h2] at h0 ⊢
   by_cases h3:s=[65,78,68]
   ·rw[if_pos h3] at h0 ⊢; exact T.some h0
   ·rw[if_neg h3] at h0 ⊢; exact T.some h0
 ·rw[if_neg h1] at h0 ⊢
  by_cases h2:k=6
  ·rw[if_pos h2] at h0 ⊢
   refine T.step (a:=.str s) (by simp(disch:=(first | ((repeat(first | rw[aB] | rw[aE] | rw[List.length_cons] | rw[List.length_nil])) <;> omega) | (refine(?_:_∧True).1; constructor; simp only[aL, *]; exact True.intro))) only[aX]) ?_
   refine T.step Pd ?_
   unfold lE iB gD kD
   by_cases e1:s=[61]
   ·subst e1; exact T.some h0
   by_cases e2:s=[60,62]
   ·subst e2; exact T.some h0
   by_cases e3:s=[60]
   ·subst e3; exact T.some h0
   by_cases e4:s=[60,61]
   ·subst e4; exact T.some h0
   by_cases e5:s=[62]
   ·subst e5; exact T.some h0
   by_cases e6:s=[62,61]
   ·subst e6; exact T.some h0
   by_cases e7:s=[43]
   ·subst e7; exact T.some h0
   by_cases e8:s=[45]
   ·subst e8; exact T.some h0
   by_cases e9:s=[42]
   ·subst e9; exact T.some h0
   simp only[e1,e2,e3,e4,e5,e6,e7,e8,e9,if_false,or_self,Option.bind_some,Bool.false_eq_true] at h0 ⊢
   exact T.some h0
  ·rw[if_neg h2] at h0 ⊢; exact T.some h0
theorem Kb {st:St}{R:Nat}{b:Bool}{φ:Int×Bool×Int×List UInt8×AV×AV×St→Prop}(h:φ (1,b,0,[],.aF,.aF,(st.push (.cells 25 true [(.int .i64 0),(.bool false),(.int .i64 0),(.str []),AV.aF,AV.aF])).put st.next (.cells 25 true [(.int .i64 1),(.bool b),(.int .i64 0),(.str []),AV.aF,AV.aF]))):T φ (sZ R b st):=by
 unfold sZ
 simp(disch:=(first | ((repeat(first | rw[aB] | rw[aE] | rw[List.length_cons] | rw[List.length_nil])) <;> omega) | (refine(?_:_∧True).1; constructor; simp only[aL, *]; exact True.intro))) only[aX]
 exact T.some h
theorem Ot {st:St}{R:Nat}{n:Int}{φ:Int×Bool×Int×List UInt8×AV×AV×St→Prop}(h:φ (2,false,n,[],.aF,.aF,(st.push (.cells 25 true [(.int .i64 0),(.bool false),(.int .i64 0),(.str []),AV.aF,AV.aF])).put st.next (.cells 25 true [(.int .i64 2),(.bool false),(.int .i64 n),(.str []),AV.aF,AV.aF]))):T φ (yS R n st):=by
 unfold yS
 simp(disch:=(first | ((repeat(first | rw[aB] | rw[aE] | rw[List.length_cons] | rw[List.length_nil])) <;> omega) | (refine(?_:_∧True).1; constructor; simp only[aL, *]; exact True.intro))) only[aX]
 exact T.some h
theorem PG {st:St}{R:Nat}{s:List UInt8}{φ:Int×Bool×Int×List UInt8×AV×AV×St→Prop}(h:φ (3,false,0,s,.aF,.aF,(st.push (.cells 25 true [(.int .i64 0),(.bool false),(.int .i64 0),(.str []),AV.aF,AV.aF])).put st.next (.cells 25 true [(.int .i64 3),(.bool false),(.int .i64 0),(.str s),AV.aF,AV.aF]))):T φ (zD R s st):=by
 unfold zD
 simp(disch:=(first | ((repeat(first | rw[aB] | rw[aE] | rw[List.length_cons] | rw[List.length_nil])) <;> omega) | (refine(?_:_∧True).1; constructor; simp only[aL, *]; exact True.intro))) only[aX]
 exact T.some h
theorem Lo {st:St}{R:Nat}{s:List UInt8}{φ:Int×Bool×Int×List UInt8×AV×AV×St→Prop}(h:φ (4,false,0,s,.aF,.aF,(st.push (.cells 25 true [(.int .i64 0),(.bool false),(.int .i64 0),(.str []),AV.aF,AV.aF])).put st.next (.cells 25 true [(.int .i64 4),(.bool false),(.int .i64 0),(.str s),AV.aF,AV.aF]))):T φ (tU R s st):=by
 unfold tU
 simp(disch:=(first | ((repeat(first | rw[aB] | rw[aE] | rw[List.length_cons] | rw[List.length_nil])) <;> omega) | (refine(?_:_∧True).1; constructor; simp only[aL, *]; exact True.intro))) only[aX]
 exact T.some h
end
end Go.Proofs.YthodfojhbbendaaGreatDoor
end
section
set_option linter.all false
set_option maxRecDepth 100000
namespace Go.Proofs.YthodfojhbbendaaGreatDoor
open Go Go.Ev
noncomputable section
attribute [local congr] n7 sW
def EP (ws:List W)(st:St)(p q:Nat)(e:Ex)(z:Z)(φ:Int×List UInt8×Int×Bool×Int×List UInt8×AV×AV×AV×AV×St→Prop):Prop:=
 ∀ st1 kv nv,RX e kv nv→PS ws st1 p z→KP p q st st1→φ (e.k,e.s,e.v.k,e.v.b,e.v.n,e.v.s,.aF,.aF,kv,nv,st1)
def AP (v:Vl):Ex:=.mk 1 [] v [] []
def MR (ws : List W) (z : Z) : Option (Ex × Z) := match sR ws z [78, 85, 76, 76] with
 | (true,z1)=>.some (AP V0,gG z1)
 | (false, z1) => match sR ws z1 [84, 82, 85, 69] with
   | (true,z2)=>.some (AP ⟨1,true,0,[]⟩,gG z2)
   | (false, z2) => match sR ws z2 [70, 65, 76, 83, 69] with
     | (true,z3)=>.some (AP ⟨1,false,0,[]⟩,gG z3)
     | (false, z3) => if z3.e = 0 then
      if(wd ws z.i).1=3 then(sB (wd ws z.i).2.1).map fun n=>(AP ⟨2,false,n,[]⟩,gG (sL z3))
      else if(wd ws z.i).1=4 then .some (AP ⟨3,false,0,(wd ws z.i).2.1⟩,gG (sL z3))
      else if(wd ws z.i).1=5 then .some (AP ⟨4,false,0,(wd ws z.i).2.1⟩,gG (sL z3))
      else .some (AP V0,qD z3 120)
       else .some (AP V0,z3)
theorem Pt {R:Nat}{s:List UInt8}{n:Int}(h:sB s=.some n):QF R s 10 64=.some (n,.B7):=by
 unfold QF
 rw[if_pos ⟨rfl,rfl⟩,h]; rfl
theorem JA {ws:List W}{z z1:Z}{s:List UInt8}(h:sR ws z s=(false,z1)):z1=z:=by
 unfold sR vB at h
 split at h
 ·cases h
 ·exact(Prod.mk.inj h).2.symm
theorem OY {ws : List W} {st : St} {p : Nat} {z z' : Z} {e : Ex} {R : Nat} {φ : Int × List UInt8 × Int × Bool × Int × List UInt8 × AV × AV × AV × AV × St → Prop} (W : Wf ws) (hP : PS ws st p z) (hb : MR ws z = .some (e, z'))
 (hφ:EP ws st p p e z' φ):T φ (gJ R (.ref p 0) st):=by
 have hP0:=hP
 obtain⟨x,a,t,u,hg,hr,hi,hp⟩:=hP
 unfold gJ
 repeat(refine T.step (by simp(disch:=(first | ((repeat(first | rw[aB] | rw[aE] | rw[List.length_cons] | rw[List.length_nil])) <;> omega) | (refine(?_:_∧True).1; constructor; simp only[aL, *]; exact True.intro))) only[aX,hg,Jh hr hi,Q3]; try exact rfl) ?_)
 unfold MR at hb
 rcases e1:sR ws z [78,85,76,76] with⟨b1,z1⟩
 rw[e1] at hb
 refine T.bind (yP W (by repeat' (first | exact hP0 | refine PS.push ?_ _ | refine PS.put ?_ _ ?_ | ((try simp only[aB,aE]) <;> omega))) e1 fun st1 h1 k1=>?_)
 have K1:=KP.trans (p:=p) (q:=p) (a:=st) (by repeat' (first | exact KP.refl | exact KP.refl | refine KP.dX ?_ | refine KP.loc ?_ ?_ | exact Or.inl rfl | exact Or.inr (Or.inl rfl) | ((try simp only[aB,aE]) <;> omega))) k1
 have n_k1:=k1.le; (try simp only[aB,aE] at n_k1)
 cases b1 with
 | true =>
   obtain⟨rfl,rfl⟩:=Prod.mk.inj (Option.some.inj hb)
   refine T.fA rfl ?_
   repeat(refine T.step (by simp(disch:=(first | ((repeat(first | rw[aB] | rw[aE] | rw[List.length_cons] | rw[List.length_nil])) <;> omega) | (refine(?_:_∧True).1; constructor; simp only[aL, *]; exact True.intro))) only[aX,k1.2.1]; try exact rfl) ?_)
   refine T.bind (oU h1 rfl rfl rfl rfl fun st2 h2 k2=>?_)
   have n_k2:=k2.le; (try simp only[aB,aE] at n_k2)
   repeat(refine T.step (by simp(disch:=(first | ((repeat(first | rw[aB] | rw[aE] | rw[List.length_cons] | rw[List.length_nil])) <;> omega) | (refine(?_:_∧True).1; constructor; simp only[aL, *]; exact True.intro))) only[aX,k1.2.1,k2.2.1]; try exact rfl) ?_)
   exact T.some (hφ _ _ _ (RX.leaf 1 [] V0) (by repeat' (first | exact h2 | refine PS.push ?_ _ | refine PS.put ?_ _ ?_ | ((try simp only[aB,aE]) <;> omega))) (by repeat' (first | exact K1.trans k2 | exact KP.refl | refine KP.dX ?_ | refine KP.loc ?_ ?_ | exact Or.inl rfl | exact Or.inr (Or.inl rfl) | ((try simp only[aB,aE]) <;> omega))))
 | false =>
   refine T.gY (by decide) ?_
   simp only at hb
   rcases e2:sR ws z1 [84,82,85,69] with⟨b2,z2⟩
   rw[e2] at hb
   refine T.bind (yP W h1 e2 fun st2 h2 k2=>?_)
   have K2:=K1.trans k2
   have n_k2:=k2.le; (try simp only[aB,aE] at n_k2)
   cases b2 with
   | true =>
     obtain⟨rfl,rfl⟩:=Prod.mk.inj (Option.some.inj hb)
     refine T.fA rfl ?_
     refine T.bind (Kb ?_)
     repeat(refine T.step (by simp(disch:=(first | ((repeat(first | rw[aB] | rw[aE] | rw[List.length_cons] | rw[List.length_nil])) <;> omega) | (refine(?_:_∧True).1; constructor; simp only[aL, *]; exact True.intro))) only[aX,k1.2.1,k2.2.1,Gv,dJ]; try exact rfl) ?_)
     refine T.bind (oU (ws:=ws) (z:=z2) (by repeat' (first | exact h2 | refine PS.push ?_ _ | refine PS.put ?_ _ ?_ | ((try simp only[aB,aE]) <;> omega))) rfl rfl rfl rfl fun st3 h3 k3=>?_)
     have n_k3:=k3.le; (try simp only[aB,aE] at n_k3)
     repeat(refine T.step (by simp(disch:=(first | ((repeat(first | rw[aB] | rw[aE] | rw[List.length_cons] | rw[List.length_nil])) <;> omega) | (refine(?_:_∧True).1; constructor; simp only[aL, *]; exact True.intro))) only[aX,k1.2.1,k2.2.1,k3.2.1]; try exact rfl) ?_)
     exact T.some (hφ _ _ _ (RX.leaf 1 [] ⟨1,true,0,[]⟩) (by repeat' (first | exact h3 | refine PS.push ?_ _ | refine PS.put ?_ _ ?_ | ((try simp only[aB,aE]) <;> omega))) (by repeat' (first | exact KP.trans (by repeat' (first | exact K2 | exact KP.refl | refine KP.dX ?_ | refine KP.loc ?_ ?_ | exact Or.inl rfl | exact Or.inr (Or.inl rfl) | ((try simp only[aB,aE]) <;> omega))) k3 | refine KP.dX ?_ | refine KP.loc ?_ ?_ | exact Or.inl rfl | exact Or.inr (Or.inl rfl) | ((try simp only[aB,aE]) <;> omega))))
   | false =>
     refine T.gY (by decide) ?_
     simp only at hb
     rcases e3:sR ws z2 [70,65,76,83,69] with⟨b3,z3⟩
     rw[e3] at hb
     refine T.bind (yP W h2 e3 fun st3 h3 k3=>?_)
     have K3:=K2.trans k3
     have n_k3:=k3.le; (try simp only[aB,aE] at n_k3)
     cases b3 with
     | true =>
       obtain⟨rfl,rfl⟩:=Prod.mk.inj (Option.some.inj hb)
       refine T.fA rfl ?_
       refine T.bind (Kb ?_)
       repeat(refine T.step (by simp(disch:=(first | ((repeat(first | rw[aB] | rw[aE] | rw[List.length_cons] | rw[List.length_nil])) <;> omega) | (refine(?_:_∧True).1; constructor; simp only[aL, *]; exact True.intro))) only[aX,k1.2.1,k2.2.1,k3.2.1,Gv,dJ]; try exact rfl) ?_)
       refine T.bind (oU (ws:=ws) (z:=z3) (by repeat' (first | exact h3 | refine PS.push ?_ _ | refine PS.put ?_ _ ?_ | ((try simp only[aB,aE]) <;> omega))) rfl rfl rfl rfl fun st4 h4 k4=>?_)
       have n_k4:=k4.le; (try simp only[aB,aE] at n_k4)
       repeat(refine T.step (by simp(disch:=(first | ((repeat(first | rw[aB] | rw[aE] | rw[List.length_cons] | rw[List.length_nil])) <;> omega) | (refine(?_:_∧True).1; constructor; simp only[aL, *]; exact True.intro))) only[aX,k1.2.1,k2.2.1,k3.2.1,k4.2.1]; try exact rfl) ?_)
       exact T.some (hφ _ _ _ (RX.leaf 1 [] ⟨1,false,0,[]⟩) (by repeat' (first | exact h4 | refine PS.push ?_ _ | refine PS.put ?_ _ ?_ | ((try simp only[aB,aE]) <;> omega))) (by repeat' (first | exact KP.trans (by repeat' (first | exact K3 | exact KP.refl | refine KP.dX ?_ | refine KP.loc ?_ ?_ | exact Or.inl rfl | exact Or.inr (Or.inl rfl) | ((try simp only[aB,aE]) <;> omega))) k4 | refine KP.dX ?_ | refine KP.loc ?_ ?_ | exact Or.inl rfl | exact Or.inr (Or.inl rfl) | ((try simp only[aB,aE]) <;> omega))))
     | false =>
       refine T.gY (by decide) ?_
       simp only at hb
       have h30:=h3
       obtain⟨x3,a3,t3,u3,hg3,hr3,hi3,hp3⟩:=h3
       have ez:z3.i=z.i:=by rw[JA e3,JA e2,JA e1]
       repeat(refine T.step (by simp(disch:=(first | ((repeat(first | rw[aB] | rw[aE] | rw[List.length_cons] | rw[List.length_nil])) <;> omega) | (refine(?_:_∧True).1; constructor; simp only[aL, *]; exact True.intro))) only[aX,hg3]; try exact rfl) ?_)
       by_cases he:z3.e=0
       ·rw[if_pos he] at hb
        refine T.fA he ?_
        repeat(refine T.step (by simp(disch:=(first | ((repeat(first | rw[aB] | rw[aE] | rw[List.length_cons] | rw[List.length_nil])) <;> omega) | (refine(?_:_∧True).1; constructor; simp only[aL, *]; exact True.intro))) only[aX,k1.2.1,k2.2.1,k3.2.1]; try exact rfl) ?_)
        by_cases c3:(wd ws z.i).1=3
        ·rw[if_pos c3] at hb
         refine T.fA c3 ?_
         obtain⟨n,hn,hb⟩:=Option.map_eq_some_iff.1 hb
         obtain⟨rfl,rfl⟩:=Prod.mk.inj hb
         repeat(refine T.step (by simp(disch:=(first | ((repeat(first | rw[aB] | rw[aE] | rw[List.length_cons] | rw[List.length_nil])) <;> omega) | (refine(?_:_∧True).1; constructor; simp only[aL, *]; exact True.intro))) only[aX,k1.2.1,k2.2.1,k3.2.1]; try exact rfl) ?_)
         refine T.step (Pt hn) ?_
         refine T.bind (Ot ?_)
         repeat(refine T.step (by simp(disch:=(first | ((repeat(first | rw[aB] | rw[aE] | rw[List.length_cons] | rw[List.length_nil])) <;> omega) | (refine(?_:_∧True).1; constructor; simp only[aL, *]; exact True.intro))) only[aX,k1.2.1,k2.2.1,k3.2.1,hg3,FO W hi3,Gv,dJ]; try exact rfl) ?_)
         refine T.bind (oU (ws:=ws) (z:=sL z3) (PS.of (HE rfl) hr3 (W.more _ hi3 (by rw[ez,c3]; decide)) (by((try simp only[aB,aE]) <;> omega))) rfl rfl rfl rfl fun st4 h4 k4=>?_)
         have n_k4:=k4.le; (try simp only[aB,aE] at n_k4)
         repeat(refine T.step (by simp(disch:=(first | ((repeat(first | rw[aB] | rw[aE] | rw[List.length_cons] | rw[List.length_nil])) <;> omega) | (refine(?_:_∧True).1; constructor; simp only[aL, *]; exact True.intro))) only[aX,k1.2.1,k2.2.1,k3.2.1,k4.2.1]; try exact rfl) ?_)
         exact T.some (hφ _ _ _ (RX.leaf 1 [] ⟨2,false,n,[]⟩) (by repeat' (first | exact h4 | refine PS.push ?_ _ | refine PS.put ?_ _ ?_ | ((try simp only[aB,aE]) <;> omega))) (by repeat' (first | exact KP.trans (by repeat' (first | exact K3 | exact KP.refl | refine KP.dX ?_ | refine KP.loc ?_ ?_ | exact Or.inl rfl | exact Or.inr (Or.inl rfl) | ((try simp only[aB,aE]) <;> omega))) k4 | refine KP.dX ?_ | refine KP.loc ?_ ?_ | exact Or.inl rfl | exact Or.inr (Or.inl rfl) | ((try simp only[aB,aE]) <;> omega))))
        ·rw[if_neg c3] at hb
         refine T.gY c3 ?_
         by_cases c4:(wd ws z.i).1=4
         ·rw[if_pos c4] at hb
          refine T.fA c4 ?_
          obtain⟨rfl,rfl⟩:=Prod.mk.inj (Option.some.inj hb)
          repeat(refine T.step (by simp(disch:=(first | ((repeat(first | rw[aB] | rw[aE] | rw[List.length_cons] | rw[List.length_nil])) <;> omega) | (refine(?_:_∧True).1; constructor; simp only[aL, *]; exact True.intro))) only[aX,k1.2.1,k2.2.1,k3.2.1]; try exact rfl) ?_)
          refine T.bind (PG ?_)
          repeat(refine T.step (by simp(disch:=(first | ((repeat(first | rw[aB] | rw[aE] | rw[List.length_cons] | rw[List.length_nil])) <;> omega) | (refine(?_:_∧True).1; constructor; simp only[aL, *]; exact True.intro))) only[aX,k1.2.1,k2.2.1,k3.2.1,hg3,FO W hi3,Gv,dJ]; try exact rfl) ?_)
          refine T.bind (oU (ws:=ws) (z:=sL z3) (PS.of (HE rfl) hr3 (W.more _ hi3 (by rw[ez,c4]; decide)) (by((try simp only[aB,aE]) <;> omega))) rfl rfl rfl rfl fun st4 h4 k4=>?_)
          have n_k4:=k4.le; (try simp only[aB,aE] at n_k4)
          repeat(refine T.step (by simp(disch:=(first | ((repeat(first | rw[aB] | rw[aE] | rw[List.length_cons] | rw[List.length_nil])) <;> omega) | (refine(?_:_∧True).1; constructor; simp only[aL, *]; exact True.intro))) only[aX,k1.2.1,k2.2.1,k3.2.1,k4.2.1]; try exact rfl) ?_)
          exact T.some (hφ _ _ _ (RX.leaf 1 [] ⟨3,false,0,(wd ws z.i).2.1⟩) (by repeat' (first | exact h4 | refine PS.push ?_ _ | refine PS.put ?_ _ ?_ | ((try simp only[aB,aE]) <;> omega))) (by repeat' (first | exact KP.trans (by repeat' (first | exact K3 | exact KP.refl | refine KP.dX ?_ | refine KP.loc ?_ ?_ | exact Or.inl rfl | exact Or.inr (Or.inl rfl) | ((try simp only[aB,aE]) <;> omega))) k4 | refine KP.dX ?_ | refine KP.loc ?_ ?_ | exact Or.inl rfl | exact Or.inr (Or.inl rfl) | ((try simp only[aB,aE]) <;> omega))))
         ·rw[if_neg c4] at hb
          refine T.gY c4 ?_
          by_cases c5:(wd ws z.i).1=5
          ·rw[if_pos c5] at hb
           refine T.fA c5 ?_
           obtain⟨rfl,rfl⟩:=Prod.mk.inj (Option.some.inj hb)
           repeat(refine T.step (by simp(disch:=(first | ((repeat(first | rw[aB] | rw[aE] | rw[List.length_cons] | rw[List.length_nil])) <;> omega) | (refine(?_:_∧True).1; constructor; simp only[aL, *]; exact True.intro))) only[aX,k1.2.1,k2.2.1,k3.2.1]; try exact rfl) ?_)
           refine T.bind (Lo ?_)
           repeat(refine T.step (by simp(disch:=(first | ((repeat(first | rw[aB] | rw[aE] | rw[List.length_cons] | rw[List.length_nil])) <;> omega) | (refine(?_:_∧True).1; constructor; simp only[aL, *]; exact True.intro))) only[aX,k1.2.1,k2.2.1,k3.2.1,hg3,FO W hi3,Gv,dJ]; try exact rfl) ?_)
           refine T.bind (oU (ws:=ws) (z:=sL z3) (PS.of (HE rfl) hr3 (W.more _ hi3 (by rw[ez,c5]; decide)) (by((try simp only[aB,aE]) <;> omega))) rfl rfl rfl rfl fun st4 h4 k4=>?_)
           have n_k4:=k4.le; (try simp only[aB,aE] at n_k4)
           repeat(refine T.step (by simp(disch:=(first | ((repeat(first | rw[aB] | rw[aE] | rw[List.length_cons] | rw[List.length_nil])) <;> omega) | (refine(?_:_∧True).1; constructor; simp only[aL, *]; exact True.intro))) only[aX,k1.2.1,k2.2.1,k3.2.1,k4.2.1]; try exact rfl) ?_)
           exact T.some (hφ _ _ _ (RX.leaf 1 [] ⟨4,false,0,(wd ws z.i).2.1⟩) (by repeat' (first | exact h4 | refine PS.push ?_ _ | refine PS.put ?_ _ ?_ | ((try simp only[aB,aE]) <;> omega))) (by repeat' (first | exact KP.trans (by repeat' (first | exact K3 | exact KP.refl | refine KP.dX ?_ | refine KP.loc ?_ ?_ | exact Or.inl rfl | exact Or.inr (Or.inl rfl) | ((try simp only[aB,aE]) <;> omega))) k4 | refine KP.dX ?_ | refine KP.loc ?_ ?_ | exact Or.inl rfl | exact Or.inr (Or.inl rfl) | ((try simp only[aB,aE]) <;> omega))))
          ·rw[if_neg c5] at hb
           refine T.gY c5 ?_
           obtain⟨rfl,rfl⟩:=Prod.mk.inj (Option.some.inj hb)
           refine T.bind (A2 h30 fun st4 h4 k4 _=>?_)
           have n_k4:=k4.le; (try simp only[aB,aE] at n_k4)
           repeat(refine T.step (by simp(disch:=(first | ((repeat(first | rw[aB] | rw[aE] | rw[List.length_cons] | rw[List.length_nil])) <;> omega) | (refine(?_:_∧True).1; constructor; simp only[aL, *]; exact True.intro))) only[aX,k1.2.1,k2.2.1,k3.2.1,k4.2.1]; try exact rfl) ?_)
           exact T.some (hφ _ _ _ (RX.leaf 1 [] V0) (by repeat' (first | exact h4 | refine PS.push ?_ _ | refine PS.put ?_ _ ?_ | ((try simp only[aB,aE]) <;> omega))) (by repeat' (first | exact KP.trans (by repeat' (first | exact K3 | exact KP.refl | refine KP.dX ?_ | refine KP.loc ?_ ?_ | exact Or.inl rfl | exact Or.inr (Or.inl rfl) | ((try simp only[aB,aE]) <;> omega))) k4 | refine KP.dX ?_ | refine KP.loc ?_ ?_ | exact Or.inl rfl | exact Or.inr (Or.inl rfl) | ((try simp only[aB,aE]) <;> omega))))
       ·rw[if_neg he] at hb
        refine T.gY he ?_
        obtain⟨rfl,rfl⟩:=Prod.mk.inj (Option.some.inj hb)
        repeat(refine T.step (by simp(disch:=(first | ((repeat(first | rw[aB] | rw[aE] | rw[List.length_cons] | rw[List.length_nil])) <;> omega) | (refine(?_:_∧True).1; constructor; simp only[aL, *]; exact True.intro))) only[aX,k1.2.1,k2.2.1,k3.2.1]; try exact rfl) ?_)
        exact T.some (hφ _ _ _ (RX.leaf 1 [] V0) (by repeat' (first | exact h30 | refine PS.push ?_ _ | refine PS.put ?_ _ ?_ | ((try simp only[aB,aE]) <;> omega))) (by repeat' (first | exact K3 | exact KP.refl | refine KP.dX ?_ | refine KP.loc ?_ ?_ | exact Or.inl rfl | exact Or.inr (Or.inl rfl) | ((try simp only[aB,aE]) <;> omega))))
end
end Go.Proofs.YthodfojhbbendaaGreatDoor
end
section
set_option linter.all false
set_option maxRecDepth 100000
namespace Go.Proofs.YthodfojhbbendaaGreatDoor
open Go Go.Ev
noncomputable section
attribute [local congr] n7 sW
instance Pb:xO C0.P 26 10:=⟨⟨28,160,.agg [.int .i64 0,.str [],.int .i64 0,.bool false,.int .i64 0,.str [],.aF,.aF,.aF,.aF],by kernel_rfl,by kernel_rfl,by kernel_rfl,by kernel_rfl,by omega,by omega,by kernel_rfl,by kernel_rfl⟩⟩
instance RG:xO C0.P 22 1:=⟨⟨9,16,.str [],by kernel_rfl,by kernel_rfl,by kernel_rfl,by kernel_rfl,by omega,by omega,by kernel_rfl,by kernel_rfl⟩⟩
theorem Oi {P:Program}{t:TypeId}{sz:Nat}[T:xO P t sz]{v w:AV}(st:St)(hl:v.cells.length=sz)(h1:v.cells.all AV.one=true)(hl2:w.cells.length=sz)(h2:w.cells.all AV.one=true)(hs:2 * sz≤16777216):
 eV (aY P false t 2 [(0,v),(1,w)]) st=.some (.sl st.next (2 * sz) 2 sz (.some 2) (v.cells ++ w.cells),st.push (.nE (2 * sz))):=by
 obtain⟨e,bs,z,t1,t2,t3,t4,t5,t6,t7,t8⟩:=T.ok
 have c1:Nat.ble (2 * sz) 16777216=true:=Nat.ble_eq_true_of_le (by omega)
 have c2:Nat.beq z.cells.length sz=true:=by rw[t7]; exact Nat.beq_refl sz
 have c3:Nat.beq sz 0=false:=by cases sz with
  | zero=>exact absurd t6 (Nat.lt_irrefl 0)
  | succ n=>rfl
 have c4:(!(Nat.ble (2 * sz) 16777216 && Nat.beq z.cells.length sz && !Nat.beq sz 0))=false:=by rw[c1,c2,c3]; rfl
 have e0:cW z.cells 2=z.cells ++ z.cells:=by simp[cW]
 have c5:(Nat.beq sz sz && Nat.ble (0 * sz+sz) (cW z.cells 2).length)=true:=by
  rw[Nat.beq_refl,Bool.true_and]
  refine Nat.ble_eq_true_of_le ?_
  rw[e0,List.length_append,t7]; omega
 have c6:dJ (cW z.cells 2) (0 * sz) v.cells=v.cells ++ z.cells:=by
  rw[e0]
  simp only[dJ,Nat.zero_mul,List.take_zero,List.nil_append,Nat.zero_add]
  rw[hl,← t7,List.drop_left]
 have c7:(Nat.beq sz sz && Nat.ble (1 * sz+sz) (v.cells ++ z.cells).length)=true:=by
  rw[Nat.beq_refl,Bool.true_and]
  refine Nat.ble_eq_true_of_le ?_
  rw[List.length_append,t7,hl]; omega
 have c8:dJ (v.cells ++ z.cells) (1 * sz) w.cells=v.cells ++ w.cells:=by
  simp only[dJ,Nat.one_mul]
  rw[← hl,List.take_left,List.drop_eq_nil_of_le (by rw[List.length_append,t7,hl2,hl]; exact Nat.le_refl _),List.append_nil]
 have c9:(v.cells ++ w.cells).all AV.one=true:=by rw[List.all_append,h1,h2]; rfl
 have c10:(v.cells ++ w.cells).length=2 * sz:=by rw[List.length_append,hl,hl2]; omega
 simp only[eV,aY,t1,t2,t4,Option.bind_some,tR c4,pY,hl,hl2,eW c5,c6,eW c7,c8,eW c9,eS,c10]
def EE (s:List UInt8)(x y:Ex):Ex:=.mk 6 s V0 [x,y] []
def Fs (k:Int)(x:Ex):Ex:=.mk k [] V0 [x] []
theorem oS {e:Ex}{kv nv:AV}(h:RX e kv nv):(uK e kv nv).all AV.one=true:=by
 obtain⟨h1,h2⟩:=h.one
 simp only[uK,List.all_cons,List.all_nil,Kq,P3,PQ,Q9,h1,h2,Bool.and_self]
theorem RX.bin {s:List UInt8}{x y:Ex}{a b c d:AV}{id:Nat}(h:RX x a b)(k:RX y c d):RX (EE s x y) (.sl id 20 2 10 (.some 2) (uK x a b ++ uK y c d)) .aF:=by
 refine RX.mk (kcs:=uK x a b ++ uK y c d) ?_ (.inr ⟨_,_,_,_,rfl,rfl⟩) (.inl ⟨rfl,rfl⟩)
 exact(AQ.nil.snoc h rfl).snoc k rfl
theorem RX.un {k:Int}{x:Ex}{a b:AV}{id:Nat}(h:RX x a b):RX (Fs k x) (.sl id 10 1 10 (.some 1) (uK x a b)) .aF:=by
 refine RX.mk (kcs:=uK x a b) ?_ (.inr ⟨_,_,_,_,rfl,rfl⟩) (.inl ⟨rfl,rfl⟩)
 exact AQ.nil.snoc h rfl
structure Pr where
 b:Int→Z→Option (Ex×Z)
 n:Z→Option (Ex×Z)
 u:Z→Option (Ex×Z)
def GN (ws : List W) (R : Pr) (rank : Int) : Nat → Ex → Z → Option (Ex × Z)
 | 0,_,_=>none
 | r + 1, x, z => if z.e = 0 then
  if Bi (wd ws z.i).1 (wd ws z.i).2.1=rank then
        (R.b (IntKind.wrap .i64 (rank+1)) (sL z)).bind fun q=>
         if rank=3 then .some (EE (wd ws z.i).2.1 x q.1,gG q.2) else GN ws R rank r (EE (wd ws z.i).2.1 x q.1) (gG q.2)
  else .some (x,z)
   else .some (x,z)
def qL (ws:List W)(R:Pr)(Rn:Nat)(rank:Int)(z:Z):Option (Ex×Z):=
 if rank=6 then R.u z else if rank=2 then R.n z else(R.b (IntKind.wrap .i64 (rank+1)) z).bind fun q=>GN ws R rank Rn q.1 q.2
structure Nt (ws:List W)(R:dF)(Q:Pr):Prop where
 b:∀{st:St} {p:Nat} {z z':Z} {rank:Int} {e:Ex} {φ},0≤rank→rank≤6→PS ws st p z→Q.b rank z=.some (e,z')→EP ws st p p e z' φ→T φ (R.f124 (.ref p 0) rank st)
 n:∀{st:St} {p:Nat} {z z':Z} {e:Ex} {φ},PS ws st p z→Q.n z=.some (e,z')→EP ws st p p e z' φ→T φ (R.f153 (.ref p 0) st)
 u:∀{st:St} {p:Nat} {z z':Z} {e:Ex} {φ},PS ws st p z→Q.u z=.some (e,z')→EP ws st p p e z' φ→T φ (R.f152 (.ref p 0) st)
theorem GX {k:Int}{s:List UInt8}(h:0≤Bi k s):k≠0:=by
 rintro rfl
 exact absurd h (by unfold Bi; rw[if_neg (by decide),if_neg (by decide)]; decide)
theorem MQ {ws : List W} {R : dF} {Q : Pr} (W : Wf ws) (HR : Nt ws R Q) {p d d1 t t1 : Nat} {u u1 : Bool} {rank : Int} (h0 : 0 ≤ rank) (h6 : rank < 6) {st0 : St} {φ : St ⊕ St → Prop} {e : Ex} {z' : Z}
 (hdp:d≠p) (hd1p:d1≠p) (hdd:d≠d1) (hd0:st0.next≤d) (hd10:st0.next≤d1)
 (hl:∀ st1 kv nv,RX e kv nv→PS ws st1 p z'→KP p p st0 st1→st1.aS.get d1=.some (.cells t1 u1 (uK e kv nv))→φ (.inl st1))
 (hr:∀ st1 kv nv,RX e kv nv→PS ws st1 p z'→KP p p st0 st1→st1.aS.get d=.some (.cells t u (uK e kv nv))→d1<st1.next→(∃ cs,cs.length=10∧st1.aS.get d1=.some (.cells t1 u1 cs))→φ (.inr st1)):
 ∀ (r : Nat) {st : St} {x : Ex} {z : Z} {kv nv : AV} {cs : List AV}, PS ws st p z → KP p p st0 st → RX x kv nv → d < st.next → d1 < st.next → st.aS.get d = .some (.cells t u (uK x kv nv)) → st.aS.get d1 = .some (.cells t1 u1 cs) → cs.length = 10 → GN ws Q rank r x z = .some (e, z') →
  T φ (eB R (.ref p 0) rank d1 d r st)
 | 0,_,_,_,_,_,_,_,_,_,_,_,_,_,_,hb=>by cases hb
 | r + 1, st, x, z, kv, nv, cs, hP, hK, hx, hdn, hd1n, hgd, hgd1, hcs, hb => by
   have hP0:=hP
   obtain⟨xx,a,tt,uu,hg,hrow,hi,hp⟩:=hP
   obtain⟨o1,o2⟩:=hx.one
   unfold uK at hgd
   unfold eB
   unfold GN at hb
   repeat(refine T.step (by simp(disch:=(first | ((repeat(first | rw[aB] | rw[aE] | rw[List.length_cons] | rw[List.length_nil])) <;> omega) | (refine(?_:_∧True).1; constructor; simp only[aL, *]; exact True.intro))) only[aX,hg]; try exact rfl) ?_)
   by_cases he:z.e=0
   ·rw[if_pos he] at hb
    refine T.fA he ?_
    repeat(refine T.step (by simp(disch:=(first | ((repeat(first | rw[aB] | rw[aE] | rw[List.length_cons] | rw[List.length_nil])) <;> omega) | (refine(?_:_∧True).1; constructor; simp only[aL, *]; exact True.intro))) only[aX,hg,Jh hrow hi,Q3]; try exact rfl) ?_)
    refine T.bind (PN (ws:=ws) (z:=z) (p:=p) (by repeat' (first | exact hP0 | refine PS.push ?_ _ | refine PS.put ?_ _ ?_ | ((try simp only[aB,aE]) <;> omega))) fun st1 h1 k1=>?_)
    have n_k1:=k1.le; (try simp only[aB,aE] at n_k1)
    have K1:KP p p st0 st1:=(by repeat' (first | exact KP.trans (by repeat' (first | exact hK | exact KP.refl | refine KP.dX ?_ | refine KP.loc ?_ ?_ | exact Or.inl rfl | exact Or.inr (Or.inl rfl) | ((try simp only[aB,aE]) <;> omega))) k1 | refine KP.dX ?_ | refine KP.loc ?_ ?_ | exact Or.inl rfl | exact Or.inr (Or.inl rfl) | ((try simp only[aB,aE]) <;> omega)))
    by_cases hrk:Bi (wd ws z.i).1 (wd ws z.i).2.1=rank
    ·rw[if_pos hrk] at hb
     refine T.fA hrk ?_
     obtain⟨q,hq,hb⟩:=Option.bind_eq_some_iff.1 hb
     obtain⟨y,z2⟩:=q
     obtain⟨x1,a1,tt1,uu1,hg1,hrow1,hi1,hp1⟩:=h1
     repeat(refine T.step (by simp(disch:=(first | ((repeat(first | rw[aB] | rw[aE] | rw[List.length_cons] | rw[List.length_nil])) <;> omega) | (refine(?_:_∧True).1; constructor; simp only[aL, *]; exact True.intro))) only[aX,hg1,FO W hi1]; try exact rfl) ?_)
     refine T.bind (HR.b (by rw[wrap64 (by omega) (by omega)]; omega) (by rw[wrap64 (by omega) (by omega)]; omega) (PS.of (HE rfl) hrow1 (W.more _ hi1 (GX (by rw[hrk]; exact h0))) (by((try simp only[aB,aE]) <;> omega))) hq fun st2 kv2 nv2 hy h2 k2=>?_)
     have n_k2:=k2.le; (try simp only[aB,aE] at n_k2)
     have K2:KP p p st0 st2:=(by repeat' (first | exact KP.trans (by repeat' (first | exact K1 | exact KP.refl | refine KP.dX ?_ | refine KP.loc ?_ ?_ | exact Or.inl rfl | exact Or.inr (Or.inl rfl) | ((try simp only[aB,aE]) <;> omega))) k2 | refine KP.dX ?_ | refine KP.loc ?_ ?_ | exact Or.inl rfl | exact Or.inr (Or.inl rfl) | ((try simp only[aB,aE]) <;> omega)))
     obtain⟨o3,o4⟩:=hy.one
     repeat(refine T.step (by simp(disch:=(first | ((repeat(first | rw[aB] | rw[aE] | rw[List.length_cons] | rw[List.length_nil])) <;> omega) | (refine(?_:_∧True).1; constructor; simp only[aL, *]; exact True.intro))) only[aX,k1.2.1,k2.2.1,hgd,hgd1]; try exact rfl) ?_)
     refine T.step (Oi (P:=C0.P) (t:=26) (v:=.agg (uK x kv nv)) (w:=.agg (uK y kv2 nv2)) _ rfl (oS hx) rfl (oS hy) (by decide)) ?_
     refine T.step (OM rfl) ?_
     refine T.bind (oU (ws:=ws) (z:=z2) (by repeat' (first | exact h2 | refine PS.push ?_ _ | refine PS.put ?_ _ ?_ | ((try simp only[aB,aE]) <;> omega))) rfl rfl rfl rfl fun st3 h3 k3=>?_)
     have n_k3:=k3.le; (try simp only[aB,aE] at n_k3)
     have K3:KP p p st0 st3:=(by repeat' (first | exact KP.trans (by repeat' (first | exact K2 | exact KP.refl | refine KP.dX ?_ | refine KP.loc ?_ ?_ | exact Or.inl rfl | exact Or.inr (Or.inl rfl) | ((try simp only[aB,aE]) <;> omega))) k3 | refine KP.dX ?_ | refine KP.loc ?_ ?_ | exact Or.inl rfl | exact Or.inr (Or.inl rfl) | ((try simp only[aB,aE]) <;> omega)))
     have hxy:=RX.bin (s:=(wd ws z.i).2.1) (id:=st2.next+1) hx hy
     have g3:st3.aS.get d=.some (.cells t u (uK x kv nv)):=by
      simp(disch:=(first | ((repeat(first | rw[aB] | rw[aE] | rw[List.length_cons] | rw[List.length_nil])) <;> omega) | (refine(?_:_∧True).1; constructor; simp only[aL, *]; exact True.intro))) only[cD,k3.2.1,k2.2.1,k1.2.1,hgd]; rfl
     have g31:st3.aS.get d1=.some (.cells t1 u1 cs):=by
      simp(disch:=(first | ((repeat(first | rw[aB] | rw[aE] | rw[List.length_cons] | rw[List.length_nil])) <;> omega) | (refine(?_:_∧True).1; constructor; simp only[aL, *]; exact True.intro))) only[cD,k3.2.1,k2.2.1,k1.2.1,hgd1]
     unfold uK at g3
     repeat(refine T.step (by simp(disch:=(first | ((repeat(first | rw[aB] | rw[aE] | rw[List.length_cons] | rw[List.length_nil])) <;> omega) | (refine(?_:_∧True).1; constructor; simp only[aL, *]; exact True.intro))) only[aX,g3,g31]; try exact rfl) ?_)
     by_cases h3r:rank=3
     ·simp only[h3r,if_true] at hb
      obtain⟨rfl,rfl⟩:=Prod.mk.inj (Option.some.inj hb)
      refine T.fA h3r ?_
      repeat(refine T.step (by simp(disch:=(first | ((repeat(first | rw[aB] | rw[aE] | rw[List.length_cons] | rw[List.length_nil])) <;> omega) | (refine(?_:_∧True).1; constructor; simp only[aL, *]; exact True.intro))) only[aX,g3,g31]; try exact rfl) ?_)
      refine T.some (hl _ _ _ hxy (by repeat' (first | exact h3 | refine PS.push ?_ _ | refine PS.put ?_ _ ?_ | ((try simp only[aB,aE]) <;> omega))) (by repeat' (first | exact K3 | exact KP.refl | refine KP.dX ?_ | refine KP.loc ?_ ?_ | exact Or.inl rfl | exact Or.inr (Or.inl rfl) | ((try simp only[aB,aE]) <;> omega))) ?_)
      exact HE rfl
     ·simp only[h3r,if_false] at hb
      refine T.gY h3r ?_
      refine MQ W HR h0 h6 hdp hd1p hdd hd0 hd10 hl hr r (cs:=cs) (by repeat' (first | exact h3 | refine PS.push ?_ _ | refine PS.put ?_ _ ?_ | ((try simp only[aB,aE]) <;> omega))) (by repeat' (first | exact K3 | exact KP.refl | refine KP.dX ?_ | refine KP.loc ?_ ?_ | exact Or.inl rfl | exact Or.inr (Or.inl rfl) | ((try simp only[aB,aE]) <;> omega))) hxy ?_ ?_ (HE rfl) ?_ hcs hb
      ·((try simp only[aB,aE]) <;> omega)
      ·((try simp only[aB,aE]) <;> omega)
      ·rw[NG (fun h=>hdd h.symm),g31]
    ·rw[if_neg hrk] at hb
     refine T.gY hrk ?_
     obtain⟨rfl,rfl⟩:=Prod.mk.inj (Option.some.inj hb)
     have g1:st1.aS.get d=.some (.cells t u (uK x kv nv)):=by
      simp(disch:=(first | ((repeat(first | rw[aB] | rw[aE] | rw[List.length_cons] | rw[List.length_nil])) <;> omega) | (refine(?_:_∧True).1; constructor; simp only[aL, *]; exact True.intro))) only[cD,k1.2.1,hgd]; rfl
     have g11:st1.aS.get d1=.some (.cells t1 u1 cs):=by
      simp(disch:=(first | ((repeat(first | rw[aB] | rw[aE] | rw[List.length_cons] | rw[List.length_nil])) <;> omega) | (refine(?_:_∧True).1; constructor; simp only[aL, *]; exact True.intro))) only[cD,k1.2.1,hgd1]
     unfold uK at g1
     repeat(refine T.step (by simp(disch:=(first | ((repeat(first | rw[aB] | rw[aE] | rw[List.length_cons] | rw[List.length_nil])) <;> omega) | (refine(?_:_∧True).1; constructor; simp only[aL, *]; exact True.intro))) only[aX,g1,g11]; try exact rfl) ?_)
     refine T.some (hl _ _ _ hx (by repeat' (first | exact h1 | refine PS.push ?_ _ | refine PS.put ?_ _ ?_ | ((try simp only[aB,aE]) <;> omega))) (by repeat' (first | exact K1 | exact KP.refl | refine KP.dX ?_ | refine KP.loc ?_ ?_ | exact Or.inl rfl | exact Or.inr (Or.inl rfl) | ((try simp only[aB,aE]) <;> omega))) ?_)
     exact HE rfl
   ·rw[if_neg he] at hb
    refine T.gY he ?_
    obtain⟨rfl,rfl⟩:=Prod.mk.inj (Option.some.inj hb)
    exact T.some (hr _ _ _ hx hP0 hK hgd hd1n ⟨_,hcs,hgd1⟩)
end
end Go.Proofs.YthodfojhbbendaaGreatDoor
end
section
set_option linter.all false
set_option maxRecDepth 100000
set_option maxHeartbeats 4000000
namespace Go.Proofs.YthodfojhbbendaaGreatDoor
open Go Go.Ev
noncomputable section
attribute [local congr] n7 sW
theorem KP.wide {p q:Nat}{a b:St}(h:KP p p a b):KP p q a b:=⟨h.1,fun i h1 h2 _=>h.2.1 i h1 h2 h2,h.2.2⟩
theorem z6 {ws : List W} {R : dF} {Q : Pr} (W : Wf ws) (HR : Nt ws R Q) {st : St} {p : Nat} {rank : Int} (h0 : 0 ≤ rank) (h6 : rank ≤ 6) {z z' : Z} {e : Ex} {φ : Int × List UInt8 × Int × Bool × Int × List UInt8 × AV × AV × AV × AV × St → Prop}
 (hP:PS ws st p z) (hb:qL ws Q R.n rank z=.some (e,z')) (hφ:EP ws st p p e z' φ):T φ (dK R (.ref p 0) rank st):=by
 have hp:=hP.lt
 unfold dK
 unfold qL at hb
 by_cases r6:rank=6
 ·rw[if_pos r6] at hb
  refine T.fA r6 ?_
  refine T.bind (HR.u (by repeat' (first | exact hP | refine PS.push ?_ _ | refine PS.put ?_ _ ?_ | ((try simp only[aB,aE]) <;> omega))) hb fun st1 kv nv hx h1 k1=>?_)
  have n_k1:=k1.le; (try simp only[aB,aE] at n_k1)
  have K1:KP p p st st1:=(by repeat' (first | exact KP.trans (by repeat' (first | exact KP.refl | exact KP.refl | refine KP.dX ?_ | refine KP.loc ?_ ?_ | exact Or.inl rfl | exact Or.inr (Or.inl rfl) | ((try simp only[aB,aE]) <;> omega))) k1 | refine KP.dX ?_ | refine KP.loc ?_ ?_ | exact Or.inl rfl | exact Or.inr (Or.inl rfl) | ((try simp only[aB,aE]) <;> omega)))
  obtain⟨o1,o2⟩:=hx.one
  repeat(refine T.step (by simp(disch:=(first | ((repeat(first | rw[aB] | rw[aE] | rw[List.length_cons] | rw[List.length_nil])) <;> omega) | (refine(?_:_∧True).1; constructor; simp only[aL, *]; exact True.intro))) only[aX,k1.2.1]; try exact rfl) ?_)
  exact T.some (hφ _ _ _ hx (by repeat' (first | exact h1 | refine PS.push ?_ _ | refine PS.put ?_ _ ?_ | ((try simp only[aB,aE]) <;> omega))) (by repeat' (first | exact K1 | exact KP.refl | refine KP.dX ?_ | refine KP.loc ?_ ?_ | exact Or.inl rfl | exact Or.inr (Or.inl rfl) | ((try simp only[aB,aE]) <;> omega))))
 ·rw[if_neg r6] at hb
  refine T.gY r6 ?_
  by_cases r2:rank=2
  ·rw[if_pos r2] at hb
   refine T.fA r2 ?_
   refine T.bind (HR.n (by repeat' (first | exact hP | refine PS.push ?_ _ | refine PS.put ?_ _ ?_ | ((try simp only[aB,aE]) <;> omega))) hb fun st1 kv nv hx h1 k1=>?_)
   have n_k1:=k1.le; (try simp only[aB,aE] at n_k1)
   have K1:KP p p st st1:=(by repeat' (first | exact KP.trans (by repeat' (first | exact KP.refl | exact KP.refl | refine KP.dX ?_ | refine KP.loc ?_ ?_ | exact Or.inl rfl | exact Or.inr (Or.inl rfl) | ((try simp only[aB,aE]) <;> omega))) k1 | refine KP.dX ?_ | refine KP.loc ?_ ?_ | exact Or.inl rfl | exact Or.inr (Or.inl rfl) | ((try simp only[aB,aE]) <;> omega)))
   obtain⟨o1,o2⟩:=hx.one
   repeat(refine T.step (by simp(disch:=(first | ((repeat(first | rw[aB] | rw[aE] | rw[List.length_cons] | rw[List.length_nil])) <;> omega) | (refine(?_:_∧True).1; constructor; simp only[aL, *]; exact True.intro))) only[aX,k1.2.1]; try exact rfl) ?_)
   exact T.some (hφ _ _ _ hx (by repeat' (first | exact h1 | refine PS.push ?_ _ | refine PS.put ?_ _ ?_ | ((try simp only[aB,aE]) <;> omega))) (by repeat' (first | exact K1 | exact KP.refl | refine KP.dX ?_ | refine KP.loc ?_ ?_ | exact Or.inl rfl | exact Or.inr (Or.inl rfl) | ((try simp only[aB,aE]) <;> omega))))
  ·rw[if_neg r2] at hb
   refine T.gY r2 ?_
   obtain⟨q,hq,hb⟩:=Option.bind_eq_some_iff.1 hb
   obtain⟨x,z1⟩:=q
   refine T.bind (HR.b (by rw[wrap64 (by omega) (by omega)]; omega) (by rw[wrap64 (by omega) (by omega)]; omega) (by repeat' (first | exact hP | refine PS.push ?_ _ | refine PS.put ?_ _ ?_ | ((try simp only[aB,aE]) <;> omega))) hq fun st1 kv nv hx h1 k1=>?_)
   have n_k1:=k1.le; (try simp only[aB,aE] at n_k1)
   have K1:KP p p st st1:=(by repeat' (first | exact KP.trans (by repeat' (first | exact KP.refl | exact KP.refl | refine KP.dX ?_ | refine KP.loc ?_ ?_ | exact Or.inl rfl | exact Or.inr (Or.inl rfl) | ((try simp only[aB,aE]) <;> omega))) k1 | refine KP.dX ?_ | refine KP.loc ?_ ?_ | exact Or.inl rfl | exact Or.inr (Or.inl rfl) | ((try simp only[aB,aE]) <;> omega)))
   have hp1:=h1.lt
   obtain⟨o1,o2⟩:=hx.one
   repeat(refine T.step (by simp(disch:=(first | ((repeat(first | rw[aB] | rw[aE] | rw[List.length_cons] | rw[List.length_nil])) <;> omega) | (refine(?_:_∧True).1; constructor; simp only[aL, *]; exact True.intro))) only[aX,k1.2.1]; try exact rfl) ?_)
   have g1:st1.aS.get st.next=.some (.cells 28 true [(.int .i64 0),(.str []),(.int .i64 0),(.bool false),(.int .i64 0),(.str []),AV.aF,AV.aF,AV.aF,AV.aF]):=by simp(disch:=(first | ((repeat(first | rw[aB] | rw[aE] | rw[List.length_cons] | rw[List.length_nil])) <;> omega) | (refine(?_:_∧True).1; constructor; simp only[aL, *]; exact True.intro))) only[cD,k1.2.1]
   refine T.bind (MQ (t:=28) (t1:=28) (u:=true) (u1:=true) W HR h0 (by omega) (st0:=st) (p:=p) (d:=st1.next) (d1:=st.next) (by omega) (by omega) (by omega) (by omega) (by omega) ?_ ?_ R.n (by repeat' (first | exact h1 | refine PS.push ?_ _ | refine PS.put ?_ _ ?_ | ((try simp only[aB,aE]) <;> omega))) (by repeat' (first | exact K1 | exact KP.refl | refine KP.dX ?_ | refine KP.loc ?_ ?_ | exact Or.inl rfl | exact Or.inr (Or.inl rfl) | ((try simp only[aB,aE]) <;> omega))) hx (by((try simp only[aB,aE]) <;> omega)) (by((try simp only[aB,aE]) <;> omega)) (HE rfl) (cs:=[(.int .i64 0),(.str []),(.int .i64 0),(.bool false),(.int .i64 0),(.str []),AV.aF,AV.aF,AV.aF,AV.aF]) (by simp(disch:=(first | ((repeat(first | rw[aB] | rw[aE] | rw[List.length_cons] | rw[List.length_nil])) <;> omega) | (refine(?_:_∧True).1; constructor; simp only[aL, *]; exact True.intro))) only[cD,g1]) rfl hb)
   ·intro st2 kv2 nv2 hx2 h2 k2 hg
    obtain⟨o1,o2⟩:=hx2.one
    unfold uK at hg
    repeat(refine T.step (by simp(disch:=(first | ((repeat(first | rw[aB] | rw[aE] | rw[List.length_cons] | rw[List.length_nil])) <;> omega) | (refine(?_:_∧True).1; constructor; simp only[aL, *]; exact True.intro))) only[aX,hg]; try exact rfl) ?_)
    exact T.some (hφ _ _ _ hx2 h2 k2)
   ·intro st2 kv2 nv2 hx2 h2 k2 hg hn hg1
    obtain⟨o1,o2⟩:=hx2.one
    obtain⟨cs,hcs,hg1⟩:=hg1
    unfold uK at hg
    have hp2:=h2.lt
    repeat(refine T.step (by simp(disch:=(first | ((repeat(first | rw[aB] | rw[aE] | rw[List.length_cons] | rw[List.length_nil])) <;> omega) | (refine(?_:_∧True).1; constructor; simp only[aL, *]; exact True.intro))) only[aX,hg,hg1]; try exact rfl) ?_)
    exact T.some (hφ _ _ _ hx2 (by repeat' (first | exact h2 | refine PS.push ?_ _ | refine PS.put ?_ _ ?_ | ((try simp only[aB,aE]) <;> omega))) (by repeat' (first | exact k2 | exact KP.refl | refine KP.dX ?_ | refine KP.loc ?_ ?_ | exact Or.inl rfl | exact Or.inr (Or.inl rfl) | ((try simp only[aB,aE]) <;> omega))))
def N5 (ws : List W) (R : Pr) (Rn : Nat) (z : Z) : Option (Ex × Z) := match sR ws z [78, 79, 84] with
 | (true,z1)=>(R.n (cN z1)).bind fun q=>.some (Fs 4 q.1,F8 (gG q.2))
 | (false, z1) => (qL ws R Rn 3 z1).bind fun q => match sR ws q.2 [73, 83] with
   | (true, z2) => match sR ws z2 [78, 79, 84] with
     | (b,z3)=>if b=true then .some (Fs 4 (Fs 5 q.1),gG (gG (oC ws z3 2 [78,85,76,76]))) else .some (Fs 5 q.1,gG (oC ws z3 2 [78,85,76,76]))
   | (false,z2)=>.some (q.1,z2)
theorem QE {ws : List W} {R : dF} {Q : Pr} (W : Wf ws) (HR : Nt ws R Q) {st : St} {p : Nat} {z z' : Z} {e : Ex} {φ : Int × List UInt8 × Int × Bool × Int × List UInt8 × AV × AV × AV × AV × St → Prop}
 (hP:PS ws st p z) (hb:N5 ws Q R.n z=.some (e,z')) (hφ:EP ws st p p e z' φ):T φ (lN R (.ref p 0) st):=by
 have hp:=hP.lt
 unfold lN
 unfold N5 at hb
 rcases e1:sR ws z [78,79,84] with⟨b1,z1⟩
 rw[e1] at hb
 refine T.bind (yP W (by repeat' (first | exact hP | refine PS.push ?_ _ | refine PS.put ?_ _ ?_ | ((try simp only[aB,aE]) <;> omega))) e1 fun st1 h1 k1=>?_)
 have n_k1:=k1.le; (try simp only[aB,aE] at n_k1)
 have K1:KP p p st st1:=(by repeat' (first | exact KP.trans (by repeat' (first | exact KP.refl | exact KP.refl | refine KP.dX ?_ | refine KP.loc ?_ ?_ | exact Or.inl rfl | exact Or.inr (Or.inl rfl) | ((try simp only[aB,aE]) <;> omega))) k1 | refine KP.dX ?_ | refine KP.loc ?_ ?_ | exact Or.inl rfl | exact Or.inr (Or.inl rfl) | ((try simp only[aB,aE]) <;> omega)))
 have g1:st1.aS.get st.next=.some (.cells 28 true [(.int .i64 0),(.str []),(.int .i64 0),(.bool false),(.int .i64 0),(.str []),AV.aF,AV.aF,AV.aF,AV.aF]):=by simp(disch:=(first | ((repeat(first | rw[aB] | rw[aE] | rw[List.length_cons] | rw[List.length_nil])) <;> omega) | (refine(?_:_∧True).1; constructor; simp only[aL, *]; exact True.intro))) only[cD,k1.2.1]
 cases b1 with
 | true =>
   obtain⟨q,hq,hb⟩:=Option.bind_eq_some_iff.1 hb
   obtain⟨x,z2⟩:=q
   obtain⟨rfl,rfl⟩:=Prod.mk.inj (Option.some.inj hb)
   refine T.fA rfl ?_
   refine T.bind (M3 h1 fun st2 id h2 k2 hi1 hi2 gi=>?_)
   have n_k2:=k2.le; (try simp only[aB,aE] at n_k2)
   refine T.bind (HR.n h2 hq fun st3 kv nv hx h3 k3=>?_)
   have n_k3:=k3.le; (try simp only[aB,aE] at n_k3)
   obtain⟨o1,o2⟩:=hx.one
   refine T.step (zJ (P:=C0.P) (t:=26) (v:=.agg (uK x kv nv)) _ rfl (oS hx) (by decide)) ?_
   refine T.step (OM rfl) ?_
   refine T.bind (oU (ws:=ws) (z:=z2) (by repeat' (first | exact h3 | refine PS.push ?_ _ | refine PS.put ?_ _ ?_ | ((try simp only[aB,aE]) <;> omega))) rfl rfl rfl rfl fun st4 h4 k4=>?_)
   have n_k4:=k4.le; (try simp only[aB,aE] at n_k4)
   have K4:KP p p st st4:=(by repeat' (first | exact KP.trans (by repeat' (first | exact(K1.trans k2).trans k3 | exact KP.refl | refine KP.dX ?_ | refine KP.loc ?_ ?_ | exact Or.inl rfl | exact Or.inr (Or.inl rfl) | ((try simp only[aB,aE]) <;> omega))) k4 | refine KP.dX ?_ | refine KP.loc ?_ ?_ | exact Or.inl rfl | exact Or.inr (Or.inl rfl) | ((try simp only[aB,aE]) <;> omega)))
   repeat(refine T.step (by simp(disch:=(first | ((repeat(first | rw[aB] | rw[aE] | rw[List.length_cons] | rw[List.length_nil])) <;> omega) | (refine(?_:_∧True).1; constructor; simp only[aL, *]; exact True.intro))) only[aX,k4.2.1,k3.2.1,k2.2.1,g1]; try exact rfl) ?_)
   refine T.bind (Dd (id:=id) (z:=gG z2) (p:=p) (ws:=ws) (by repeat' (first | exact h4 | refine PS.push ?_ _ | refine PS.put ?_ _ ?_ | ((try simp only[aB,aE]) <;> omega))) ?_ fun st5 h5 k5=>?_)
   ·simp(disch:=(first | ((repeat(first | rw[aB] | rw[aE] | rw[List.length_cons] | rw[List.length_nil])) <;> omega) | (refine(?_:_∧True).1; constructor; simp only[aL, *]; exact True.intro))) only[cD,k4.2.1,k3.2.1,gi]
   have n_k5:=k5.le; (try simp only[aB,aE] at n_k5)
   have K5:KP p p st st5:=(by repeat' (first | exact KP.trans (by repeat' (first | exact K4 | exact KP.refl | refine KP.dX ?_ | refine KP.loc ?_ ?_ | exact Or.inl rfl | exact Or.inr (Or.inl rfl) | ((try simp only[aB,aE]) <;> omega))) k5 | refine KP.dX ?_ | refine KP.loc ?_ ?_ | exact Or.inl rfl | exact Or.inr (Or.inl rfl) | ((try simp only[aB,aE]) <;> omega)))
   repeat(refine T.step (by simp(disch:=(first | ((repeat(first | rw[aB] | rw[aE] | rw[List.length_cons] | rw[List.length_nil])) <;> omega) | (refine(?_:_∧True).1; constructor; simp only[aL, *]; exact True.intro))) only[aX,k5.2.1]; try exact rfl) ?_)
   exact T.some (hφ _ _ _ (RX.un hx) h5 K5)
 | false =>
   obtain⟨q,hq,hb⟩:=Option.bind_eq_some_iff.1 hb
   obtain⟨x,z2⟩:=q
   refine T.gY (by decide) ?_
   refine T.bind (z6 W HR (by decide) (by decide) h1 hq fun st2 kv nv hx h2 k2=>?_)
   have n_k2:=k2.le; (try simp only[aB,aE] at n_k2)
   have K2:=K1.trans k2
   have hp2:=h2.lt
   obtain⟨o1,o2⟩:=hx.one
   repeat(refine T.step (by simp(disch:=(first | ((repeat(first | rw[aB] | rw[aE] | rw[List.length_cons] | rw[List.length_nil])) <;> omega) | (refine(?_:_∧True).1; constructor; simp only[aL, *]; exact True.intro))) only[aX]; try exact rfl) ?_)
   rcases e3:sR ws z2 [73,83] with⟨b3,z3⟩
   simp only[e3] at hb
   refine T.bind (yP W (by repeat' (first | exact h2 | refine PS.push ?_ _ | refine PS.put ?_ _ ?_ | ((try simp only[aB,aE]) <;> omega))) e3 fun st3 h3 k3=>?_)
   have n_k3:=k3.le; (try simp only[aB,aE] at n_k3)
   have K3:KP p p st st3:=(by repeat' (first | exact KP.trans (by repeat' (first | exact K2 | exact KP.refl | refine KP.dX ?_ | refine KP.loc ?_ ?_ | exact Or.inl rfl | exact Or.inr (Or.inl rfl) | ((try simp only[aB,aE]) <;> omega))) k3 | refine KP.dX ?_ | refine KP.loc ?_ ?_ | exact Or.inl rfl | exact Or.inr (Or.inl rfl) | ((try simp only[aB,aE]) <;> omega)))
   have g3:st3.aS.get st.next=.some (.cells 28 true [(.int .i64 0),(.str []),(.int .i64 0),(.bool false),(.int .i64 0),(.str []),AV.aF,AV.aF,AV.aF,AV.aF]):=by simp(disch:=(first | ((repeat(first | rw[aB] | rw[aE] | rw[List.length_cons] | rw[List.length_nil])) <;> omega) | (refine(?_:_∧True).1; constructor; simp only[aL, *]; exact True.intro))) only[cD,k3.2.1,k2.2.1,g1]
   have g3x:st3.aS.get st2.next=.some (.cells 28 true (uK x kv nv)):=by simp(disch:=(first | ((repeat(first | rw[aB] | rw[aE] | rw[List.length_cons] | rw[List.length_nil])) <;> omega) | (refine(?_:_∧True).1; constructor; simp only[aL, *]; exact True.intro))) only[cD,k3.2.1]; rfl
   unfold uK at g3x
   unfold jI
   cases b3 with
   | true =>
     rcases e4:sR ws z3 [78,79,84] with⟨b4,z4⟩
     simp only[e4] at hb
     refine T.bind (T.fA rfl ?_)
     refine T.bind (yP W h3 e4 fun st4 h4 k4=>?_)
     have n_k4:=k4.le; (try simp only[aB,aE] at n_k4)
     refine T.bind (Nk W h4 fun st5 h5 k5=>?_)
     have n_k5:=k5.le; (try simp only[aB,aE] at n_k5)
     have K5:=(K3.trans k4).trans k5
     repeat(refine T.step (by simp(disch:=(first | ((repeat(first | rw[aB] | rw[aE] | rw[List.length_cons] | rw[List.length_nil])) <;> omega) | (refine(?_:_∧True).1; constructor; simp only[aL, *]; exact True.intro))) only[aX,k5.2.1,k4.2.1,g3x]; try exact rfl) ?_)
     refine T.step (zJ (P:=C0.P) (t:=26) (v:=.agg (uK x kv nv)) _ rfl (oS hx) (by decide)) ?_
     refine T.step (OM rfl) ?_
     refine T.bind (oU (ws:=ws) (z:=oC ws z4 2 [78,85,76,76]) (by repeat' (first | exact h5 | refine PS.push ?_ _ | refine PS.put ?_ _ ?_ | ((try simp only[aB,aE]) <;> omega))) rfl rfl rfl rfl fun st6 h6 k6=>?_)
     have n_k6:=k6.le; (try simp only[aB,aE] at n_k6)
     have K6:KP p p st st6:=(by repeat' (first | exact KP.trans (by repeat' (first | exact K5 | exact KP.refl | refine KP.dX ?_ | refine KP.loc ?_ ?_ | exact Or.inl rfl | exact Or.inr (Or.inl rfl) | ((try simp only[aB,aE]) <;> omega))) k6 | refine KP.dX ?_ | refine KP.loc ?_ ?_ | exact Or.inl rfl | exact Or.inr (Or.inl rfl) | ((try simp only[aB,aE]) <;> omega)))
     have hx2:=RX.un (k:=5) (id:=st5.next) hx
     repeat(refine T.step (by simp(disch:=(first | ((repeat(first | rw[aB] | rw[aE] | rw[List.length_cons] | rw[List.length_nil])) <;> omega) | (refine(?_:_∧True).1; constructor; simp only[aL, *]; exact True.intro))) only[aX,k6.2.1,k5.2.1,k4.2.1,g3x]; try exact rfl) ?_)
     cases b4 with
     | true =>
       simp only[if_true] at hb
       obtain⟨rfl,rfl⟩:=Prod.mk.inj (Option.some.inj hb)
       refine T.fA rfl ?_
       repeat(refine T.step (by simp(disch:=(first | ((repeat(first | rw[aB] | rw[aE] | rw[List.length_cons] | rw[List.length_nil])) <;> omega) | (refine(?_:_∧True).1; constructor; simp only[aL, *]; exact True.intro))) only[aX]; try exact rfl) ?_)
       refine T.step (zJ (P:=C0.P) (t:=26) (v:=.agg (uK (Fs 5 x) (.sl st5.next 10 1 10 (.some 1) (uK x kv nv)) .aF)) _ rfl (oS hx2) (by decide)) ?_
       refine T.step (OM rfl) ?_
       refine T.bind (oU (ws:=ws) (z:=gG (oC ws z4 2 [78,85,76,76])) (by repeat' (first | exact h6 | refine PS.push ?_ _ | refine PS.put ?_ _ ?_ | ((try simp only[aB,aE]) <;> omega))) rfl rfl rfl rfl fun st7 h7 k7=>?_)
       have n_k7:=k7.le; (try simp only[aB,aE] at n_k7)
       have K7:KP p p st st7:=(by repeat' (first | exact KP.trans (by repeat' (first | exact K6 | exact KP.refl | refine KP.dX ?_ | refine KP.loc ?_ ?_ | exact Or.inl rfl | exact Or.inr (Or.inl rfl) | ((try simp only[aB,aE]) <;> omega))) k7 | refine KP.dX ?_ | refine KP.loc ?_ ?_ | exact Or.inl rfl | exact Or.inr (Or.inl rfl) | ((try simp only[aB,aE]) <;> omega)))
       repeat(refine T.step (by simp(disch:=(first | ((repeat(first | rw[aB] | rw[aE] | rw[List.length_cons] | rw[List.length_nil])) <;> omega) | (refine(?_:_∧True).1; constructor; simp only[aL, *]; exact True.intro))) only[aX,k7.2.1]; try exact rfl) ?_)
       refine T.some ?_
       repeat(refine T.step (by simp(disch:=(first | ((repeat(first | rw[aB] | rw[aE] | rw[List.length_cons] | rw[List.length_nil])) <;> omega) | (refine(?_:_∧True).1; constructor; simp only[aL, *]; exact True.intro))) only[aX,k7.2.1,k6.2.1,k5.2.1,k4.2.1,g3]; try exact rfl) ?_)
       exact T.some (hφ _ _ _ (RX.un hx2) (by repeat' (first | exact h7 | refine PS.push ?_ _ | refine PS.put ?_ _ ?_ | ((try simp only[aB,aE]) <;> omega))) (by repeat' (first | exact K7 | exact KP.refl | refine KP.dX ?_ | refine KP.loc ?_ ?_ | exact Or.inl rfl | exact Or.inr (Or.inl rfl) | ((try simp only[aB,aE]) <;> omega))))
     | false =>
       simp only[Bool.false_eq_true,if_false] at hb
       obtain⟨rfl,rfl⟩:=Prod.mk.inj (Option.some.inj hb)
       refine T.gY (by decide) ?_
       refine T.some ?_
       repeat(refine T.step (by simp(disch:=(first | ((repeat(first | rw[aB] | rw[aE] | rw[List.length_cons] | rw[List.length_nil])) <;> omega) | (refine(?_:_∧True).1; constructor; simp only[aL, *]; exact True.intro))) only[aX,k6.2.1,k5.2.1,k4.2.1,g3]; try exact rfl) ?_)
       exact T.some (hφ _ _ _ hx2 (by repeat' (first | exact h6 | refine PS.push ?_ _ | refine PS.put ?_ _ ?_ | ((try simp only[aB,aE]) <;> omega))) (by repeat' (first | exact K6 | exact KP.refl | refine KP.dX ?_ | refine KP.loc ?_ ?_ | exact Or.inl rfl | exact Or.inr (Or.inl rfl) | ((try simp only[aB,aE]) <;> omega))))
   | false =>
     obtain⟨rfl,rfl⟩:=Prod.mk.inj (Option.some.inj hb)
     refine T.bind (T.gY (by decide) (T.some ?_))
     repeat(refine T.step (by simp(disch:=(first | ((repeat(first | rw[aB] | rw[aE] | rw[List.length_cons] | rw[List.length_nil])) <;> omega) | (refine(?_:_∧True).1; constructor; simp only[aL, *]; exact True.intro))) only[aX,g3x,g3]; try exact rfl) ?_)
     exact T.some (hφ _ _ _ hx (by repeat' (first | exact h3 | refine PS.push ?_ _ | refine PS.put ?_ _ ?_ | ((try simp only[aB,aE]) <;> omega))) (by repeat' (first | exact K3 | exact KP.refl | refine KP.dX ?_ | refine KP.loc ?_ ?_ | exact Or.inl rfl | exact Or.inr (Or.inl rfl) | ((try simp only[aB,aE]) <;> omega))))
end
end Go.Proofs.YthodfojhbbendaaGreatDoor
end
section
set_option linter.all false
set_option maxRecDepth 100000
set_option maxHeartbeats 4000000
namespace Go.Proofs.YthodfojhbbendaaGreatDoor
open Go Go.Ev
noncomputable section
attribute [local congr] n7 sW
theorem Mq {P : Program} {t : TypeId} {sz : Nat} [T : xO P t sz] {st : St} {x : AV} {cells new : List AV} {j : Nat} {e' : Nat} {c' : Option Nat} (h : Sl st sz x cells) (hl : new.length = sz) (h1 : new.all AV.one = true) (hn : cells.length ≤ iL) :
 ∃ x' st',cX P false st #[t,t] x (.sl j e' 1 sz c' new)=some (x',st')∧Sl st' sz x' (cells ++ new)∧mV st st' (eL x)∧(∀ id,eL x' id→eL x id∨st.next≤id)∧st'.old=st.old:=by
 obtain⟨e,bs,z,t1,t2,t3,t4,t5,t6,t7,t8⟩:=T.ok
 have q1:Nat.beq t t=true:=Nat.beq_refl t
 have q2:(Nat.ble 1 1 && Nat.beq sz sz)=true:=by rw[Nat.beq_refl]; rfl
 have q3:range? new 0 (1 * sz)=some new:=by
  unfold range?
  rw[eW (Nat.ble_eq_true_of_le (by omega)),List.drop_zero,List.take_of_length_le (by omega)]
 have c1:Nat.beq sz 0=false:=by cases sz with
  | zero=>exact absurd t6 (Nat.lt_irrefl 0)
  | succ n=>rfl
 have c2:Nat.ble 1 iL=true:=rfl
 have c3:Nat.ble bs 4096=true:=Nat.ble_eq_true_of_le t5
 have c4:Nat.beq z.cells.length sz=true:=by rw[t7]; exact Nat.beq_refl sz
 have c5:(!(new.all AV.one && Nat.ble 1 iL && Nat.ble bs 4096 && !Nat.beq sz 0 && Nat.beq z.cells.length sz))=false:=by rw[h1,c1,c2,c3,c4]; rfl
 have b0:Nat.beq 1 0=false:=rfl
 have base:∀(q:AV),cX P false st #[t,t] q (.sl j e' 1 sz c' new)=(match q with
  | .aF=>cond (Nat.beq 1 0) (some (.aF,st)) (some (st.Ih (eS false e 1 sz none new)))
  | .sl id e len sz' cap cs =>
    cond (Nat.beq 1 0) (some (q,st))<|cond (!(Nat.ble len iL && Nat.beq sz sz')) none<|
    cond (cap.any fun c=>Nat.blt c (len+1)) (some (st.Ih (eS false e (len+1) sz none (cs ++ new))))<|
    match st.aS.get id with
    | some (.nE h)=>cond (Nat.beq h e && !false) (some (.sl id (e+new.length) (len+1) sz cap (cs ++ new),st.put id (.nE (e+new.length)))) none
    | _=>none
  | q=>cX P false st #[t,t] q (.sl j e' 1 sz c' new)):=by
  intro q
  cases q <;> first | rfl | (simp only[cX,t1,t2,t3,t4,Option.bind_some,A4,lenOf,qH,eW q1,eD,eW q2,q3,tR c5]; try rfl)
 rcases h with⟨rfl,rfl⟩ | ⟨id,e0,len,cap,rfl,h2,h3,h4⟩
 ·refine⟨.sl st.next new.length 1 sz none new,st.push (.nE new.length),?_,.inr ⟨_,_,_,_,rfl,by rw[List.nil_append,hl,Nat.one_mul],Nat.lt_succ_self _,.inr ⟨rfl,by simp[St.push,Tr.bP]⟩⟩,mV.push st _ _,fun id hi=>.inr (by rw[show id=st.next from hi]; exact Nat.le_refl _),rfl⟩
  rw[base]; rfl
 ·have hlen:len≤iL:=by
   have:len * 1≤len * sz:=Nat.mul_le_mul_left _ t6
   omega
  have d1:(!(Nat.ble len iL && Nat.beq sz sz))=false:=by rw[Nat.ble_eq_true_of_le hlen,Nat.beq_refl]; rfl
  rcases h4 with rfl | ⟨rfl,h4⟩
  ·have d2:Option.any (fun c=>Nat.blt c (len+1)) (some len)=true:=by
    show Nat.ble (len+1) (len+1)=true
    exact Nat.ble_eq_true_of_le (Nat.le_refl _)
   refine⟨.sl st.next (cells ++ new).length (len+1) sz none (cells ++ new),st.push (.nE (cells ++ new).length),?_,.inr ⟨_,_,_,_,rfl,by rw[List.length_append,h2,hl,Nat.succ_mul],Nat.lt_succ_self _,.inr ⟨rfl,by simp[St.push,Tr.bP]⟩⟩,mV.push st _ _,fun id hi=>.inr (by rw[show id=st.next from hi]; exact Nat.le_refl _),rfl⟩
   rw[base]
   simp only[b0,cond_false,tR d1,eW d2]
   rfl
  ·have d3:(Nat.beq e0 e0 && !false)=true:=by rw[Nat.beq_refl]; rfl
   refine⟨.sl id (e0+new.length) (len+1) sz none (cells ++ new),st.put id (.nE (e0+new.length)),?_,.inr ⟨_,_,_,_,rfl,by rw[List.length_append,h2,hl,Nat.succ_mul],h3,.inr ⟨rfl,by simp[St.put,Tr.bP]⟩⟩,⟨Nat.le_refl _,fun i hi hn=>?_⟩,fun i hi=>.inl hi,rfl⟩
   ·rw[base]
    simp only[b0,cond_false,tR d1,Option.any_none,h4,eW d3]
   ·simp only[St.put,Tr.bP]
    exact if_neg fun e:i=id=>hn e
theorem M9 {P:Program}{t:TypeId}{sz:Nat}[T:xO P t sz]{st:St}{x v:AV}{cells:List AV}{α:Type}(k:AV×St→Option α)(h:Sl st sz x cells)(hl:v.cells.length=sz)(h1:v.cells.all AV.one=true)(hn:cells.length≤iL)(hs:sz≤16777216):
 ∃ x' st',((eV (aY P false t 1 [(0,v)]) st).bind fun p=>(cX P false p.2 #[t,t] x p.1).bind k)=k (x',st')∧Sl st' sz x' (cells ++ v.cells)∧mV st st' (eL x)∧(∀ id,eL x' id→eL x id∨st.next≤id)∧st'.old=st.old:=by
 obtain⟨x',st',k1,k2,k3,k4,k5⟩:=Mq (P:=P) (t:=t) (j:=st.next) (e':=sz) (c':=some 1) (h.push (.nE sz)) hl h1 hn
 refine⟨x',st',?_,k2,(mV.push st (.nE sz) (eL x)).trans k3,fun id hi=>(k4 id hi).imp (fun h=>h) fun h=>?_,k5⟩
 ·rw[zJ st hl h1 hs,Option.bind_some,k1,Option.bind_some]
 ·simp only[St.push] at h; omega
theorem Sl.kp {sz p q:Nat}{st st1:St}{x:AV}{cells:List AV}(h:Sl st sz x cells)(k:KP p q st st1)(hf:∀ id,eL x id→id≠p∧id≠q):Sl st1 sz x cells:=
 h.keeps (p:=fun i=>i=p∨i=q) ⟨k.1,fun i hi hn=>k.2.1 i hi (fun e=>hn (.inl e)) (fun e=>hn (.inr e))⟩ (fun id hi hb=>hb.elim (hf id hi).1 (hf id hi).2)
theorem Sl.one {sz:Nat}{st:St}{x:AV}{cells:List AV}(h:Sl st sz x cells):x.one=true:=Row.one h.row
theorem KP.keeps {p q:Nat}{st0 st st1:St}{x:AV}(h:KP p q st0 st)(k:mV st st1 (eL x))(ho:st1.old=st.old)(hf:∀ id,eL x id→st0.next≤id):KP p q st0 st1:=
 ⟨Nat.le_trans h.1 k.1,fun i h1 h2 h3=>(k.2 i (Nat.lt_of_lt_of_le h1 h.1) (fun e=>absurd (hf i e) (by omega))).trans (h.2.1 i h1 h2 h3),ho.trans h.2.2⟩
theorem PS.keeps {ws:List W}{p:Nat}{z:Z}{st st1:St}{x:AV}(h:PS ws st p z)(k:mV st st1 (eL x))(hf:¬ eL x p):PS ws st1 p z:=by
 obtain⟨x,a,t,u,hg,hr,hi,hp⟩:=h
 exact⟨x,a,t,u,by rw[k.2 p hp hf,hg],hr,hi,Nat.lt_of_lt_of_le hp k.1⟩
theorem Ed {t:TypeId}{sz:Nat}[xO C0.P t sz]{ws:List W}{p q:Nat}{st0 st:St}{z:Z}{x v:AV}{cells:List AV}{β:Type}{φ:β→Prop}{k:AV×St→Option β}
 (hP:PS ws st p z) (hK:KP p q st0 st) (hp:p<st0.next) (h:Sl st sz x cells) (hf:∀ id,eL x id→st0.next≤id) (hl:v.cells.length=sz) (h1:v.cells.all AV.one=true) (hn:cells.length≤iL) (hs:sz≤16777216)
 (hk:∀ x' st1,PS ws st1 p z→KP p q st0 st1→Sl st1 sz x' (cells ++ v.cells)→(∀ id,eL x' id→st0.next≤id)→(∀ i,i<st.next→ ¬ eL x i→st1.aS.get i=st.aS.get i)→st.next≤st1.next→(∀ id,eL x' id→eL x id∨st.next≤id)→T φ (k (x',st1))):
 T φ (Option.bind (eV (aY C0.P false t 1 [(0,v)]) st) fun o=>match o with | (x1,st1)=>Option.bind (cX C0.P false st1 #[t,t] x x1) k):=by
 obtain⟨x',st1,e,hS,hKe,hF,hO⟩:=M9 (P:=C0.P) (t:=t) k h hl h1 hn hs
 have:=hk x' st1 (hP.keeps hKe (fun hx=>absurd (hf p hx) (by omega))) (hK.keeps hKe hO hf) hS (fun id hi=>(hF id hi).elim (hf id) (fun h=>Nat.le_trans hK.1 h)) hKe.2 hKe.1 hF
 exact e ▸ this
def qS (ws:List W)(z:Z)(n:Nat):Z:=if 32≤n then qD (if 0<n then oC ws z 6 [44] else z) 3 else if 0<n then oC ws z 6 [44] else z
theorem KS {ws:List W}{z:Z}:qS ws z 0=z:=rfl
theorem Ka {ws:List W}{z:Z}{n:Nat}(h:0<n)(h2:¬ 32≤n):qS ws z n=oC ws z 6 [44]:=by unfold qS; rw[if_neg h2,if_pos h]
theorem Kl {ws:List W}{z:Z}{n:Nat}(h2:32≤n):qS ws z n=qD (oC ws z 6 [44]) 3:=by unfold qS; rw[if_pos h2,if_pos (by omega)]
def D7 (ws : List W) (R : Pr) (Rn : Nat) (stop : List UInt8) : Nat → List Ex → Z → Option (List Ex × Z)
 | 0,_,_=>none
 | r + 1, out, z => if z.e = 0 then match nA ws z stop with
  | (true,z1)=>.some (out,z1)
  | (false,z1)=>(qL ws R Rn 0 (qS ws z1 out.length)).bind fun q=>if out.length * 10≤iL then D7 ws R Rn stop r (out ++ [q.1]) q.2 else none
   else .some (out,z)
def Cz (ws : List W) (R : Pr) (Rn : Nat) (stop : List UInt8) : Nat → List Ex → List (List UInt8) → Z → Option (List Ex × List (List UInt8) × Z)
 | 0,_,_,_=>none
 | r + 1, out, names, z => if z.e = 0 then match nA ws z stop with
  | (true,z1)=>.some (out,names,z1)
  | (false,z1)=>(qL ws R Rn 0 (oC ws (lO ws (qS ws z1 out.length)).2 6 [58])).bind fun q=>if out.length * 10≤iL∧names.length≤iL then Cz ws R Rn stop r (out ++ [q.1]) (names ++ [(lO ws (qS ws z1 out.length)).1]) q.2 else none
   else .some (out,names,z)
theorem Mu {ws:List W}{R:dF}{Q:Pr}(W:Wf ws)(HR:Nt ws R Q){st:St}{p ib:Nat}{z z':Z}{e:Ex}{φ:Int×List UInt8×Int×Bool×Int×List UInt8×AV×AV×AV×AV×St→Prop}
 (hP:PS ws st p z) (hib:st.aS.get ib=.some (.cells 124 true [.ref p 0])) (hin:ib<st.next) (hb:qL ws Q R.n 0 z=.some (e,z')) (hφ:EP ws st p p e z' φ):T φ (fF R (.ref ib 0) st):=by
 have hp:=hP.lt
 unfold fF
 repeat(refine T.step (by simp(disch:=(first | ((repeat(first | rw[aB] | rw[aE] | rw[List.length_cons] | rw[List.length_nil])) <;> omega) | (refine(?_:_∧True).1; constructor; simp only[aL, *]; exact True.intro))) only[aX,hib]; try exact rfl) ?_)
 refine T.bind (z6 W HR (by decide) (by decide) (by repeat' (first | exact hP | refine PS.push ?_ _ | refine PS.put ?_ _ ?_ | ((try simp only[aB,aE]) <;> omega))) hb fun st1 kv nv hx h1 k1=>?_)
 have n_k1:=k1.le; (try simp only[aB,aE] at n_k1)
 have K1:KP p p st st1:=(by repeat' (first | exact KP.trans (by repeat' (first | exact KP.refl | exact KP.refl | refine KP.dX ?_ | refine KP.loc ?_ ?_ | exact Or.inl rfl | exact Or.inr (Or.inl rfl) | ((try simp only[aB,aE]) <;> omega))) k1 | refine KP.dX ?_ | refine KP.loc ?_ ?_ | exact Or.inl rfl | exact Or.inr (Or.inl rfl) | ((try simp only[aB,aE]) <;> omega)))
 obtain⟨o1,o2⟩:=hx.one
 repeat(refine T.step (by simp(disch:=(first | ((repeat(first | rw[aB] | rw[aE] | rw[List.length_cons] | rw[List.length_nil])) <;> omega) | (refine(?_:_∧True).1; constructor; simp only[aL, *]; exact True.intro))) only[aX,k1.2.1]; try exact rfl) ?_)
 exact T.some (hφ _ _ _ hx (by repeat' (first | exact h1 | refine PS.push ?_ _ | refine PS.put ?_ _ ?_ | ((try simp only[aB,aE]) <;> omega))) (by repeat' (first | exact K1 | exact KP.refl | refine KP.dX ?_ | refine KP.loc ?_ ?_ | exact Or.inl rfl | exact Or.inr (Or.inl rfl) | ((try simp only[aB,aE]) <;> omega))))
theorem Dv {ws : List W} {R : dF} {Q : Pr} (W : Wf ws) (HR : Nt ws R Q) {p ib : Nat} {stop : List UInt8} {st0 : St} {φ : AV × St → Prop} {out' : List Ex} {z' : Z}
 (hp:p<st0.next) (hib0:ib<st0.next) (hibp:ib≠p) (hib:st0.aS.get ib=.some (.cells 124 true [.ref p 0]))
 (hφ:∀ st1 x kcs,Sl st1 10 x kcs→AQ out' kcs→(∀ id,eL x id→st0.next≤id)→PS ws st1 p z'→KP p p st0 st1→φ (x,st1)):
 ∀ (r : Nat) {st : St} {x : AV} {kcs : List AV} {out : List Ex} {z : Z}, PS ws st p z → KP p p st0 st → Sl st 10 x kcs → AQ out kcs → (∀ id, eL x id → st0.next ≤ id) → D7 ws Q R.n stop r out z = .some (out', z') →
  T φ (bB R (.ref p 0) stop (.ref ib 0) r x st)
 | 0,_,_,_,_,_,_,_,_,_,_,hb=>by cases hb
 | r + 1, st, x, kcs, out, z, hP, hK, hS, hE, hf, hb => by
   have hP0:=hP
   obtain⟨xx,a,tt,uu,hg,hrow,hi,hpp⟩:=hP
   unfold bB
   unfold D7 at hb
   repeat(refine T.step (by simp(disch:=(first | ((repeat(first | rw[aB] | rw[aE] | rw[List.length_cons] | rw[List.length_nil])) <;> omega) | (refine(?_:_∧True).1; constructor; simp only[aL, *]; exact True.intro))) only[aX,hg]; try exact rfl) ?_)
   by_cases he:z.e=0
   ·rw[if_pos he] at hb
    refine T.fA he ?_
    rcases e1:nA ws z stop with⟨b1,z1⟩
    rw[e1] at hb
    refine T.bind (As W hP0 e1 fun st1 h1 k1=>?_)
    have K1:=hK.trans k1
    have hS1:=Sl.kp hS k1 (fun id hi=>⟨fun e=>absurd (hf id hi) (by omega),fun e=>absurd (hf id hi) (by omega)⟩)
    have hg1:st1.aS.get ib=.some (.cells 124 true [.ref p 0]):=by rw[K1.get hib0 hibp hibp,hib]
    cases b1 with
    | true =>
      obtain⟨rfl,rfl⟩:=Prod.mk.inj (Option.some.inj hb)
      refine T.fA rfl ?_
      exact T.some (hφ _ _ _ hS1 hE hf h1 K1)
    | false =>
      refine T.gY (by decide) ?_
      have hlen:lenOf x=.some out.length:=by
       rw[Hq hS1 (by decide),hE.1,Nat.mul_div_cancel _ (by decide)]
      refine T.step hlen ?_
      simp only at hb
      by_cases hn:0<out.length
      ·refine T.fA (by omega) ?_
       unfold cP
       refine T.bind (T.bind (E1 W h1 fun st2 h2 k2=>T.some ?_))
       have K2:=K1.trans k2
       have hS2:=Sl.kp hS1 k2 (fun id hi=>⟨fun e=>absurd (hf id hi) (by omega),fun e=>absurd (hf id hi) (by omega)⟩)
       have hg2:st2.aS.get ib=.some (.cells 124 true [.ref p 0]):=by rw[K2.get hib0 hibp hibp,hib]
       by_cases hm32:32≤out.length
       ·rw[Kl hm32] at hb
        refine T.fA (by omega) ?_
        unfold cJ
        refine T.bind (T.bind (A2 h2 fun st3 h3 k3 _=>T.some ?_))
        have K3:=K2.trans k3
        have hS3:=Sl.kp hS2 k3 (fun id hi=>⟨fun e=>absurd (hf id hi) (by omega),fun e=>absurd (hf id hi) (by omega)⟩)
        have hg3:st3.aS.get ib=.some (.cells 124 true [.ref p 0]):=by rw[K3.get hib0 hibp hibp,hib]
        obtain⟨q,hq,hb⟩:=Option.bind_eq_some_iff.1 hb
        obtain⟨y,z5⟩:=q
        split at hb
        rotate_left
        ·cases hb
        rename_i hm
        refine T.bind (Mu W HR h3 hg3 (Nat.lt_of_lt_of_le hib0 K3.1) hq fun st5 kv nv hy h5 k5=>?_)
        have K5:=K3.trans k5
        refine Ed (t:=26) (v:=.agg (uK y kv nv)) h5 K5 hp (Sl.kp hS3 k5 (fun id hi=>⟨fun e=>absurd (hf id hi) (by omega),fun e=>absurd (hf id hi) (by omega)⟩)) hf rfl (oS hy) (by rw[hE.1]; exact hm) (by decide) fun x' st6 h6 K6 hS6 hf6 hg6 hn6 _=>?_
        exact Dv W HR hp hib0 hibp hib hφ r h6 K6 hS6 (hE.snoc hy rfl) hf6 hb
       ·rw[Ka hn hm32] at hb
        refine T.gY (by omega) ?_
        unfold bG
        refine T.bind (T.some ?_)
        obtain⟨q,hq,hb⟩:=Option.bind_eq_some_iff.1 hb
        obtain⟨y,z5⟩:=q
        split at hb
        rotate_left
        ·cases hb
        rename_i hm
        refine T.bind (Mu W HR h2 hg2 (Nat.lt_of_lt_of_le hib0 K2.1) hq fun st5 kv nv hy h5 k5=>?_)
        have K5:=K2.trans k5
        refine Ed (t:=26) (v:=.agg (uK y kv nv)) h5 K5 hp (Sl.kp hS2 k5 (fun id hi=>⟨fun e=>absurd (hf id hi) (by omega),fun e=>absurd (hf id hi) (by omega)⟩)) hf rfl (oS hy) (by rw[hE.1]; exact hm) (by decide) fun x' st6 h6 K6 hS6 hf6 hg6 hn6 _=>?_
        exact Dv W HR hp hib0 hibp hib hφ r h6 K6 hS6 (hE.snoc hy rfl) hf6 hb
      ·have hn0:out.length=0:=by omega
       rw[hn0,KS] at hb
       refine T.gY (by omega) ?_
       unfold cF bG
       refine T.bind (T.some (T.bind (T.some ?_)))
       obtain⟨q,hq,hb⟩:=Option.bind_eq_some_iff.1 hb
       obtain⟨y,z5⟩:=q
       split at hb
       rotate_left
       ·cases hb
       rename_i hm
       refine T.bind (Mu W HR h1 hg1 (Nat.lt_of_lt_of_le hib0 K1.1) hq fun st5 kv nv hy h5 k5=>?_)
       have K5:=K1.trans k5
       refine Ed (t:=26) (v:=.agg (uK y kv nv)) h5 K5 hp (Sl.kp hS1 k5 (fun id hi=>⟨fun e=>absurd (hf id hi) (by omega),fun e=>absurd (hf id hi) (by omega)⟩)) hf rfl (oS hy) (by rw[hE.1,hn0]; exact hm) (by decide) fun x' st6 h6 K6 hS6 hf6 hg6 hn6 _=>?_
       exact Dv W HR hp hib0 hibp hib hφ r h6 K6 hS6 (hE.snoc hy rfl) hf6 hb
   ·rw[if_neg he] at hb
    refine T.gY he ?_
    obtain⟨rfl,rfl⟩:=Prod.mk.inj (Option.some.inj hb)
    exact T.some (hφ _ _ _ hS hE hf hP0 hK)
theorem Sl.uM {sz:Nat}{st:St}{x:AV}{cells:List AV}(h:Sl st sz x cells){id:Nat}(hi:eL x id):id<st.next:=by
 rcases h with⟨rfl,rfl⟩ | ⟨i,e,len,cap,rfl,h1,h2,h3⟩
 ·exact hi.elim
 ·rw[show id=i from hi]; exact h2
theorem Sl.put {sz:Nat}{st:St}{x:AV}{cells:List AV}(h:Sl st sz x cells){d:Nat}{o:gS}(hd:¬ eL x d):Sl (st.put d o) sz x cells:=
 h.keeps (p:=fun i=>i=d) ⟨Nat.le_refl _,fun i hi hn=>NG hn⟩ (fun id hi e=>hd (e ▸ hi))
theorem I4:∀ l:List (List UInt8),AV.uN (l.map .str) (l.map .str)=true
 | []=>rfl
 | s :: l => by
   show(AV.beq (.str s) (.str s) && AV.uN (l.map .str) (l.map .str))=true
   rw[I4 l,tL]; rfl
theorem Jt {l:List (List UInt8)}{x:AV}(h:Row 1 x (l.map .str)):AV.beq x x=true:=by
 rcases h with⟨rfl,_⟩ | ⟨id,e,len,cap,rfl,_⟩
 ·rfl
 ·simp only[AV.beq,Nat.beq_refl,I4,beq_self_eq_true,Bool.and_self]
theorem KP.QO {p q:Nat}{st0 st:St}{o:gS}(h:KP p q st0 st):KP p q st0 (st.put q o):=h.loc (.inr (.inl rfl))
theorem MY {ws:List W}{R:dF}{Q:Pr}(W:Wf ws)(HR:Nt ws R Q){st0 st:St}{p ib dn tn:Nat}{un:Bool}{z z':Z}{e:Ex}{names:List (List UInt8)}{nv:AV}{φ:Int×List UInt8×Int×Bool×Int×List UInt8×AV×AV×AV×AV×St→Prop}
 (hP:PS ws st p z) (hp:p<st0.next) (hib0:ib<st0.next) (hibp:ib≠p) (hibd:ib≠dn) (hib:st0.aS.get ib=.some (.cells 124 true [.ref p 0])) (hd0:dn<st0.next) (hdp:dn≠p) (hK:KP p dn st0 st)
 (hdn:st.aS.get dn=.some (.cells tn un [nv])) (hN:Sl st 1 nv (names.map .str)) (hl:(names.map AV.str).length≤iL) (hf:∀ id,eL nv id→st0.next≤id)
 (hb:qL ws Q R.n 0 (oC ws (lO ws z).2 6 [58])=.some (e,z'))
 (hφ:∀ st1 kv nv1 nv2,RX e kv nv1→PS ws st1 p z'→KP p dn st0 st1→st1.aS.get dn=.some (.cells tn un [nv2])→Sl st1 1 nv2 ((names ++ [(lO ws z).1]).map .str)→(∀ id,eL nv2 id→st0.next≤id) →
  (∀ i,i<st.next→i≠p→i≠dn→ ¬ eL nv i→st1.aS.get i=st.aS.get i)→st.next≤st1.next→(∀ id,eL nv2 id→eL nv id∨st.next≤id)→φ (e.k,e.s,e.v.k,e.v.b,e.v.n,e.v.s,.aF,.aF,kv,nv1,st1)):
 T φ (fH R dn (.ref ib 0) st):=by
 have hn0:=hK.le
 unfold fH
 have gib:st.aS.get ib=.some (.cells 124 true [.ref p 0]):=by rw[hK.get hib0 hibp hibd,hib]
 repeat(refine T.step (by simp(disch:=(first | ((repeat(first | rw[aB] | rw[aE] | rw[List.length_cons] | rw[List.length_nil])) <;> omega) | (refine(?_:_∧True).1; constructor; simp only[aL, *]; exact True.intro))) only[aX,hdn,gib]; try exact rfl) ?_)
 refine T.bind (E4 (z:=z) W (by repeat' (first | exact hP | refine PS.push ?_ _ | refine PS.put ?_ _ ?_ | ((try simp only[aB,aE]) <;> omega))) fun st1 h1 k1=>?_)
 have n_k1:=k1.le; (try simp only[aB,aE] at n_k1)
 have hpn:p<st.next:=by omega
 have K1:KP p dn st0 st1:=(by repeat' (first | exact KP.trans (by repeat' (first | exact hK | exact KP.refl | refine KP.dX ?_ | refine KP.loc ?_ ?_ | exact Or.inl rfl | exact Or.inr (Or.inl rfl) | ((try simp only[aB,aE]) <;> omega))) k1.wide | refine KP.dX ?_ | refine KP.loc ?_ ?_ | exact Or.inl rfl | exact Or.inr (Or.inl rfl) | ((try simp only[aB,aE]) <;> omega)))
 have g1:st1.aS.get dn=.some (.cells tn un [nv]):=by
  simp(disch:=(first | ((repeat(first | rw[aB] | rw[aE] | rw[List.length_cons] | rw[List.length_nil])) <;> omega) | (refine(?_:_∧True).1; constructor; simp only[aL, *]; exact True.intro))) only[cD,k1.2.1,hdn]
 have g1b:st1.aS.get ib=.some (.cells 124 true [.ref p 0]):=by
  simp(disch:=(first | ((repeat(first | rw[aB] | rw[aE] | rw[List.length_cons] | rw[List.length_nil])) <;> omega) | (refine(?_:_∧True).1; constructor; simp only[aL, *]; exact True.intro))) only[cD,k1.2.1,gib]
 have g1r:st1.aS.get st.next=.some (.cells 28 true [(.int .i64 0),(.str []),(.int .i64 0),(.bool false),(.int .i64 0),(.str []),AV.aF,AV.aF,AV.aF,AV.aF]):=by
  simp(disch:=(first | ((repeat(first | rw[aB] | rw[aE] | rw[List.length_cons] | rw[List.length_nil])) <;> omega) | (refine(?_:_∧True).1; constructor; simp only[aL, *]; exact True.intro))) only[cD,k1.2.1]
 have hN1:Sl st1 1 nv (names.map .str):=Sl.kp (hN.push _) k1 (fun id hi=>⟨fun e=>absurd (hf id hi) (by omega),fun e=>absurd (hf id hi) (by omega)⟩)
 repeat(refine T.step (by simp(disch:=(first | ((repeat(first | rw[aB] | rw[aE] | rw[List.length_cons] | rw[List.length_nil])) <;> omega) | (refine(?_:_∧True).1; constructor; simp only[aL, *]; exact True.intro))) only[aX,g1]; try exact rfl) ?_)
 refine T.fA (Jt hN.row) ?_
 refine Ed (t:=22) (v:=.str (lO ws z).1) h1 K1 hp hN1 hf rfl rfl hl (by decide) fun x' st2 h2 K2 hS2 hf2 hg2 hn2 hF2=>?_
 have g2:st2.aS.get dn=.some (.cells tn un [nv]):=by rw[hg2 dn (by omega) (fun e=>absurd (hf dn e) (by omega)),g1]
 have g2b:st2.aS.get ib=.some (.cells 124 true [.ref p 0]):=by rw[hg2 ib (by omega) (fun e=>absurd (hf ib e) (by omega)),g1b]
 have g2r:st2.aS.get st.next=.some (.cells 28 true [(.int .i64 0),(.str []),(.int .i64 0),(.bool false),(.int .i64 0),(.str []),AV.aF,AV.aF,AV.aF,AV.aF]):=by rw[hg2 st.next (by omega) (fun e=>absurd (Sl.uM hN e) (by omega)),g1r]
 have o2:=Sl.one hS2
 repeat(refine T.step (by simp(disch:=(first | ((repeat(first | rw[aB] | rw[aE] | rw[List.length_cons] | rw[List.length_nil])) <;> omega) | (refine(?_:_∧True).1; constructor; simp only[aL, *]; exact True.intro))) only[aX,g2,Qj o2,g2b]; try exact rfl) ?_)
 have hS3:=Sl.put (d:=dn) (o:=.cells tn un [x']) hS2 (fun e=>absurd (hf2 dn e) (by omega))
 have h3:=h2.put (id:=dn) (.cells tn un [x']) hdp
 have K3:KP p dn st0 (st2.put dn (.cells tn un [x'])):=K2.QO
 refine T.bind (E1 W h3 fun st4 h4 k4=>?_)
 have n_k4:=k4.le; (try simp only[aB,aE] at n_k4)
 repeat(refine T.step (by simp(disch:=(first | ((repeat(first | rw[aB] | rw[aE] | rw[List.length_cons] | rw[List.length_nil])) <;> omega) | (refine(?_:_∧True).1; constructor; simp only[aL, *]; exact True.intro))) only[aX,k4.2.1,g2b]; try exact rfl) ?_)
 refine T.bind (z6 W HR (by decide) (by decide) h4 hb fun st5 kv nv1 hx h5 k5=>?_)
 have n_k5:=k5.le; (try simp only[aB,aE] at n_k5)
 obtain⟨o3,o4⟩:=hx.one
 repeat(refine T.step (by simp(disch:=(first | ((repeat(first | rw[aB] | rw[aE] | rw[List.length_cons] | rw[List.length_nil])) <;> omega) | (refine(?_:_∧True).1; constructor; simp only[aL, *]; exact True.intro))) only[aX,k5.2.1,k4.2.1,g2r]; try exact rfl) ?_)
 have K5:KP p dn st0 st5:=(K3.trans k4.wide).trans k5.wide
 have hS5:=Sl.kp (Sl.kp hS3 k4 (fun id hi=>⟨fun e=>absurd (hf2 id hi) (by omega),fun e=>absurd (hf2 id hi) (by omega)⟩)) k5 (fun id hi=>⟨fun e=>absurd (hf2 id hi) (by omega),fun e=>absurd (hf2 id hi) (by omega)⟩)
 have hF:∀ id,eL x' id→eL nv id∨st.next<id:=fun id hi=>(hF2 id hi).imp (fun h=>h) (fun h=>by omega)
 refine T.some (hφ _ _ _ x' hx ?_ ?_ ?_ ?_ hf2 ?_ ?_ (fun id hi=>(hF id hi).imp (fun h=>h) Nat.le_of_lt))
 ·exact h5.put _ (by omega)
 ·exact K5.loc (.inr (.inr (by omega)))
 ·simp(disch:=(first | ((repeat(first | rw[aB] | rw[aE] | rw[List.length_cons] | rw[List.length_nil])) <;> omega) | (refine(?_:_∧True).1; constructor; simp only[aL, *]; exact True.intro))) only[cD,k5.2.1,k4.2.1]
 ·have:=Sl.put (d:=st.next) (o:=.cells 28 true [.int .i64 e.k,.str e.s,.int .i64 e.v.k,.bool e.v.b,.int .i64 e.v.n,.str e.v.s,.aF,.aF,kv,nv1]) hS5 (fun hi=>(hF _ hi).elim (fun h=>absurd (Sl.uM hN h) (by omega)) (by omega))
  rw[List.map_append]; exact this
 ·intro i hi h6 h7 h8
  rw[NG (by omega),k5.get (by omega) h6 h6,k4.get (by simp only[aE]; omega) h6 h6,NG h7,hg2 i (by omega) h8,k1.get (by simp only[aB]; omega) h6 h6,Pf (by omega)]
 ·((try simp only[aB,aE]) <;> omega)
theorem E3 {ws : List W} {R : dF} {Q : Pr} (W : Wf ws) (HR : Nt ws R Q) {p ib dn tn : Nat} {un : Bool} {stop : List UInt8} {st0 : St} {φ : AV × St → Prop} {out' : List Ex} {names' : List (List UInt8)} {z' : Z}
 (hp:p<st0.next) (hib0:ib<st0.next) (hibp:ib≠p) (hibd:ib≠dn) (hib:st0.aS.get ib=.some (.cells 124 true [.ref p 0])) (hd0:dn<st0.next) (hdp:dn≠p)
 (hφ:∀ st1 x kcs nv,Sl st1 10 x kcs→AQ out' kcs→st1.aS.get dn=.some (.cells tn un [nv])→Sl st1 1 nv (names'.map .str)→PS ws st1 p z'→KP p dn st0 st1→φ (x,st1)):
 ∀ (r : Nat) {st : St} {x : AV} {kcs : List AV} {out : List Ex} {names : List (List UInt8)} {nv : AV} {z : Z}, PS ws st p z → KP p dn st0 st → Sl st 10 x kcs → AQ out kcs → (∀ id, eL x id → st0.next ≤ id) →
  st.aS.get dn=.some (.cells tn un [nv])→Sl st 1 nv (names.map .str)→(∀ id,eL nv id→st0.next≤id)→(∀ id,eL x id→ ¬ eL nv id)→Cz ws Q R.n stop r out names z=.some (out',names',z') →
  T φ (bC R (.ref p 0) stop dn (.ref ib 0) r x st)
 | 0,_,_,_,_,_,_,_,_,_,_,_,_,_,_,_,_,hb=>by cases hb
 | r + 1, st, x, kcs, out, names, nv, z, hP, hK, hS, hE, hf, hdn, hN, hfn, hd, hb => by
   have hP0:=hP
   obtain⟨xx,a,tt,uu,hg,hrow,hi,hpp⟩:=hP
   unfold bC
   unfold Cz at hb
   repeat(refine T.step (by simp(disch:=(first | ((repeat(first | rw[aB] | rw[aE] | rw[List.length_cons] | rw[List.length_nil])) <;> omega) | (refine(?_:_∧True).1; constructor; simp only[aL, *]; exact True.intro))) only[aX,hg]; try exact rfl) ?_)
   by_cases he:z.e=0
   ·rw[if_pos he] at hb
    refine T.fA he ?_
    rcases e1:nA ws z stop with⟨b1,z1⟩
    rw[e1] at hb
    refine T.bind (As W hP0 e1 fun st1 h1 k1=>?_)
    have K1:=hK.trans k1.wide
    have hS1:=Sl.kp hS k1 (fun id hi=>⟨fun e=>absurd (hf id hi) (by omega),fun e=>absurd (hf id hi) (by omega)⟩)
    have hN1:=Sl.kp hN k1 (fun id hi=>⟨fun e=>absurd (hfn id hi) (by omega),fun e=>absurd (hfn id hi) (by omega)⟩)
    have hd1:st1.aS.get dn=.some (.cells tn un [nv]):=by rw[k1.get (Nat.lt_of_lt_of_le hd0 hK.1) hdp hdp,hdn]
    cases b1 with
    | true =>
      obtain⟨rfl,h2⟩:=Prod.mk.inj (Option.some.inj hb)
      obtain⟨rfl,rfl⟩:=Prod.mk.inj h2
      refine T.fA rfl ?_
      exact T.some (hφ _ _ _ _ hS1 hE hd1 hN1 h1 K1)
    | false =>
      refine T.gY (by decide) ?_
      have hlen:lenOf x=.some out.length:=by
       rw[Hq hS1 (by decide),hE.1,Nat.mul_div_cancel _ (by decide)]
      refine T.step hlen ?_
      simp only at hb
      by_cases hn:0<out.length
      ·refine T.fA (by omega) ?_
       unfold cO
       refine T.bind (T.bind (E1 W h1 fun st2 h2 k2=>T.some ?_))
       have K2:=K1.trans k2.wide
       have hS2:=Sl.kp hS1 k2 (fun id hi=>⟨fun e=>absurd (hf id hi) (by omega),fun e=>absurd (hf id hi) (by omega)⟩)
       have hN2:=Sl.kp hN1 k2 (fun id hi=>⟨fun e=>absurd (hfn id hi) (by omega),fun e=>absurd (hfn id hi) (by omega)⟩)
       have hd2:st2.aS.get dn=.some (.cells tn un [nv]):=by rw[k2.get (Nat.lt_of_lt_of_le hd0 K1.1) hdp hdp,hd1]
       by_cases hm32:32≤out.length
       ·have hc:=Kl (ws:=ws) (z:=z1) hm32
        refine T.fA (by omega) ?_
        unfold cI
        refine T.bind (T.bind (A2 h2 fun st3 h3 k3 _=>T.some ?_))
        have K3:=K2.trans k3.wide
        have hS3:=Sl.kp hS2 k3 (fun id hi=>⟨fun e=>absurd (hf id hi) (by omega),fun e=>absurd (hf id hi) (by omega)⟩)
        have hN3:=Sl.kp hN2 k3 (fun id hi=>⟨fun e=>absurd (hfn id hi) (by omega),fun e=>absurd (hfn id hi) (by omega)⟩)
        have hd3:st3.aS.get dn=.some (.cells tn un [nv]):=by rw[k3.get (Nat.lt_of_lt_of_le hd0 K2.1) hdp hdp,hd2]
        rw[← hc] at h3
        obtain⟨q,hq,hb⟩:=Option.bind_eq_some_iff.1 hb
        obtain⟨y,z5⟩:=q
        split at hb
        rotate_left
        ·cases hb
        rename_i hm
        refine T.bind (MY W HR h3 hp hib0 hibp hibd hib hd0 hdp K3 hd3 hN3 (by simp only[List.length_map]; exact hm.2) hfn hq fun st5 kv nv' nv2 hy h5 K5 g5 hN5 hfn5 hs5 hl5 hF5=>?_)
        have hS5:Sl st5 10 x kcs:=Sl.keeps (p:=fun i=>i=p∨i=dn∨eL nv i) hS3 ⟨hl5,fun i hi hn=>hs5 i hi (fun e=>hn (.inl e)) (fun e=>hn (.inr (.inl e))) (fun e=>hn (.inr (.inr e)))⟩ (fun id hi hb=>hb.elim (fun e=>absurd (hf id hi) (by omega)) fun hb=>hb.elim (fun e=>absurd (hf id hi) (by omega)) (hd id hi))
        refine Ed (t:=26) (v:=.agg (uK y kv nv')) h5 K5 hp hS5 hf rfl (oS hy) (by rw[hE.1]; exact hm.1) (by decide) fun x' st6 h6 K6 hS6 hf6 hg6 hn6 hF6=>?_
        have hN6:Sl st6 1 nv2 ((names ++ [(lO ws (qS ws z1 out.length)).1]).map .str):=Sl.keeps (p:=eL x) hN5 ⟨hn6,hg6⟩ (fun id hi hx=>(hF5 id hi).elim (hd id hx) (fun h=>absurd (Sl.uM hS3 hx) (by omega)))
        refine E3 W HR hp hib0 hibp hibd hib hd0 hdp hφ r h6 K6 hS6 (hE.snoc hy rfl) hf6 ?_ hN6 hfn5 ?_ hb
        ·rw[hg6 dn (Nat.lt_of_lt_of_le hd0 K5.1) (fun e=>absurd (hf dn e) (by omega)),g5]
        ·intro id h1 h2
         rcases hF6 id h1 with h1 | h1
         ·rcases hF5 id h2 with h2 | h2
          ·exact hd id h1 h2
          ·exact absurd (Sl.uM hS3 h1) (by omega)
         ·exact absurd (Sl.uM hN5 h2) (by omega)
       ·have hc:=Ka (ws:=ws) (z:=z1) hn hm32
        refine T.gY (by omega) ?_
        unfold bH
        refine T.bind (T.some ?_)
        rw[← hc] at h2
        obtain⟨q,hq,hb⟩:=Option.bind_eq_some_iff.1 hb
        obtain⟨y,z5⟩:=q
        split at hb
        rotate_left
        ·cases hb
        rename_i hm
        refine T.bind (MY W HR h2 hp hib0 hibp hibd hib hd0 hdp K2 hd2 hN2 (by simp only[List.length_map]; exact hm.2) hfn hq fun st5 kv nv' nv2 hy h5 K5 g5 hN5 hfn5 hs5 hl5 hF5=>?_)
        have hS5:Sl st5 10 x kcs:=Sl.keeps (p:=fun i=>i=p∨i=dn∨eL nv i) hS2 ⟨hl5,fun i hi hn=>hs5 i hi (fun e=>hn (.inl e)) (fun e=>hn (.inr (.inl e))) (fun e=>hn (.inr (.inr e)))⟩ (fun id hi hb=>hb.elim (fun e=>absurd (hf id hi) (by omega)) fun hb=>hb.elim (fun e=>absurd (hf id hi) (by omega)) (hd id hi))
        refine Ed (t:=26) (v:=.agg (uK y kv nv')) h5 K5 hp hS5 hf rfl (oS hy) (by rw[hE.1]; exact hm.1) (by decide) fun x' st6 h6 K6 hS6 hf6 hg6 hn6 hF6=>?_
        have hN6:Sl st6 1 nv2 ((names ++ [(lO ws (qS ws z1 out.length)).1]).map .str):=Sl.keeps (p:=eL x) hN5 ⟨hn6,hg6⟩ (fun id hi hx=>(hF5 id hi).elim (hd id hx) (fun h=>absurd (Sl.uM hS2 hx) (by omega)))
        refine E3 W HR hp hib0 hibp hibd hib hd0 hdp hφ r h6 K6 hS6 (hE.snoc hy rfl) hf6 ?_ hN6 hfn5 ?_ hb
        ·rw[hg6 dn (Nat.lt_of_lt_of_le hd0 K5.1) (fun e=>absurd (hf dn e) (by omega)),g5]
        ·intro id h1 h2
         rcases hF6 id h1 with h1 | h1
         ·rcases hF5 id h2 with h2 | h2
          ·exact hd id h1 h2
          ·exact absurd (Sl.uM hS2 h1) (by omega)
         ·exact absurd (Sl.uM hN5 h2) (by omega)
      ·have hn0:out.length=0:=by omega
       have hc:qS ws z1 out.length=z1:=by rw[hn0,KS]
       refine T.gY (by omega) ?_
       unfold cG bH
       refine T.bind (T.some (T.bind (T.some ?_)))
       rw[← hc] at h1
       obtain⟨q,hq,hb⟩:=Option.bind_eq_some_iff.1 hb
       obtain⟨y,z5⟩:=q
       split at hb
       rotate_left
       ·cases hb
       rename_i hm
       refine T.bind (MY W HR h1 hp hib0 hibp hibd hib hd0 hdp K1 hd1 hN1 (by simp only[List.length_map]; exact hm.2) hfn hq fun st5 kv nv' nv2 hy h5 K5 g5 hN5 hfn5 hs5 hl5 hF5=>?_)
       have hS5:Sl st5 10 x kcs:=Sl.keeps (p:=fun i=>i=p∨i=dn∨eL nv i) hS1 ⟨hl5,fun i hi hn=>hs5 i hi (fun e=>hn (.inl e)) (fun e=>hn (.inr (.inl e))) (fun e=>hn (.inr (.inr e)))⟩ (fun id hi hb=>hb.elim (fun e=>absurd (hf id hi) (by omega)) fun hb=>hb.elim (fun e=>absurd (hf id hi) (by omega)) (hd id hi))
       refine Ed (t:=26) (v:=.agg (uK y kv nv')) h5 K5 hp hS5 hf rfl (oS hy) (by rw[hE.1]; exact hm.1) (by decide) fun x' st6 h6 K6 hS6 hf6 hg6 hn6 hF6=>?_
       have hN6:Sl st6 1 nv2 ((names ++ [(lO ws (qS ws z1 out.length)).1]).map .str):=Sl.keeps (p:=eL x) hN5 ⟨hn6,hg6⟩ (fun id hi hx=>(hF5 id hi).elim (hd id hx) (fun h=>absurd (Sl.uM hS1 hx) (by omega)))
       refine E3 W HR hp hib0 hibp hibd hib hd0 hdp hφ r h6 K6 hS6 (hE.snoc hy rfl) hf6 ?_ hN6 hfn5 ?_ hb
       ·rw[hg6 dn (Nat.lt_of_lt_of_le hd0 K5.1) (fun e=>absurd (hf dn e) (by omega)),g5]
       ·intro id h1 h2
        rcases hF6 id h1 with h1 | h1
        ·rcases hF5 id h2 with h2 | h2
         ·exact hd id h1 h2
         ·exact absurd (Sl.uM hS1 h1) (by omega)
        ·exact absurd (Sl.uM hN5 h2) (by omega)
   ·rw[if_neg he] at hb
    refine T.gY he ?_
    obtain⟨rfl,h2⟩:=Prod.mk.inj (Option.some.inj hb)
    obtain⟨rfl,rfl⟩:=Prod.mk.inj h2
    exact T.some (hφ _ _ _ _ hS hE hdn hN hP0 hK)
end
end Go.Proofs.YthodfojhbbendaaGreatDoor
end
