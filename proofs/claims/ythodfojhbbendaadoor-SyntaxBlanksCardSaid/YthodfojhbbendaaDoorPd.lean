/- SyntaxBlanks, part 4 of 10 of its proof (what is proved: whatever the text is, the law answers true; conditions: those each theorem states). Joined and shortened by a program. In order: EvHd: Symbolic walks are what the evaluator does. | EvHe: What printed walks lean on: values taken apart, operations told in plain terms. | EvHf: What is reasoned with over printed walks: numbers, texts, rows by value. | EvHg: What is proved of a call by a walk may be taken as told by later walks; a law's walk ends  | EvWh: strconv.ParseInt (decimal, 64 bits) and strconv.Atoi, as the evaluator takes them: by the  | EvWi: strconv.FormatInt (decimal), as the evaluator takes it: by the library's own contract; its | SynT: The evaluator over this seat's program: what is told of strconv, of bytes in texts, and th | SxA | SxB | SxC | SxD | SxE | SxG -/
import Derived.Test.YthodfojhbbendaaDoorPc
import Derived.Shelf.Strconv.AtoiAll
import Derived.Shelf.Strconv.ParseIntPublic10
import Derived.Shelf.Strconv.Itoa3
import Derived.Lib.AppendIntMem
import Derived.Test.YthodfojhbbendaaDoorLaid
import Derived.Test.YthodfojhbbendaaDoorProg
import Derived.KernelRfl
import Derived.OpenShut
section
set_option linter.all false
namespace Go.Ev
section
variable {C:zV}{ck:CK}{f:FuncId}{rounds N:Nat}{ro:Option Nat}{ops:Array Oper}{ts:List AV}{ov ov':Tr AV}{s s':OS}{v:AV}{P:Program}
theorem yI (h:oG N ov ts){x:Operand}(hx:Gg ov x=some v):cP ts x=some v:=by
 cases x with
 | tmp t=>simp only[cP,h.2 t v hx]
 | const c=>exact hx
 | global g=>exact hx
 | func g=>exact hx
theorem qS (h:oG N ov ts):∀{xs:List Operand} {vs:List AV},Az ov xs=some vs→dA ts xs=some vs
 | [],_,hx=>hx
 | x :: xs, vs, hx => by
   simp only[Az,Option.bind_eq_some_iff,Option.some.injEq] at hx
   obtain⟨a,h1,a_,h2,rfl⟩:=hx
   simp only[dA,yI h h1,qS h h2,Option.bind_some]
theorem Fs (l:List AV)(i j:Nat)(v:AV)(h:i<l.length):(l.set i v).getD j AV.undef=if j=i then v else l.getD j AV.undef:=by
 simp only[List.getD_eq_getElem?_getD,List.getElem?_set]
 by_cases e:i=j
 ·subst e; simp[h]
 ·rw[if_neg e,if_neg (Ne.symm e)]
theorem oG.set (h:oG N ov ts){d:Nat}(hd:d<N)(v:AV):oG N (ov.set v d) (ts.set d v):=by
 refine⟨by simp[h.1],fun t u hu=>?_⟩
 rw[Fs _ _ _ _ (by rw[h.1]; exact hd)]
 rw[Tr.cH] at hu
 split at hu
 ·rw[if_pos ‹_›]; exact Option.some.inj hu
 ·rw[if_neg ‹_›]; exact h.2 t u hu
theorem C1 (h:oG N ov ts){dst:Option Tmp}(hp:H7 N ov dst v=some ov'):oG N ov' (pU ts dst v)∧ ∀ t,dst≠some t→(pU ts dst v).getD t AV.undef=ts.getD t AV.undef:=by
 cases dst with
 | none =>
   simp only[H7,Option.some.injEq] at hp
   subst hp
   exact⟨h,fun _ _=>rfl⟩
 | some d =>
   simp only[H7] at hp
   obtain⟨h1,h2⟩:=bC hp
   have hd:d<N:=by
    have h1':d+1≤N:=Nat.le_of_ble_eq_true h1
    exact h1'
   obtain rfl:=Option.some.inj h2
   refine⟨h.set hd v,fun t ht=>?_⟩
   show(ts.set d v).getD t AV.undef=_
   rw[Fs _ _ _ _ (by rw[h.1]; exact hd),if_neg (fun e=>ht (by rw[e]))]
theorem uV (h : oG N ov ts) {o : Oper} {b : Bool} (hw : DQ ops ov o = some b) : oP ops ts o = some b := by
 unfold DQ at hw
 unfold oP
 cases hg:o.guard with
 | none=>rw[hg] at hw; exact hw
 | some p =>
   obtain⟨j,c⟩:=p
   rw[hg] at hw
   simp only at hw ⊢
   cases hd:(ops[j]?).bind (·.dst) with
   | none=>rw[hd] at hw; cases hw
   | some d =>
     rw[hd] at hw
     simp only at hw ⊢
     cases hv:ov.get d with
     | none=>rw[hv] at hw; cases hw
     | some v =>
       rw[h.2 _ _ hv]
       rw[hv] at hw
       cases v <;> first | exact hw | cases hw
def I9:List (Nat×Operand)→List AV→List (Nat×AV)
 | (i,_) :: r,a :: a_=>(i,a) :: I9 r a_
 | _,_=>[]
theorem Fk:∀{ps:List (Nat×Operand)} {vs:List AV},dA ts (ps.map (·.2))=some vs→pZ ts ps=some (I9 ps vs)
 | [],_,h=>by rw[uO h]; rfl
 | (i, x) :: ps, _, h => by
   obtain⟨v,vs',rfl,h1,h2⟩:=mJ h
   simp only[pZ,h1,Fk h2,Option.bind_some,I9]
theorem Ec (place:Nat→Option (Nat×Nat)):∀(ps:List (Nat×Operand)) (vs:List AV) (cells:List AV),p8 place cells (I9 ps vs)=EV place cells (Iq ps (vs.map AV.cells))
 | [],_,_=>by simp[I9,Iq,p8,EV]
 | (i,x) :: ps,[],_=>by simp[I9,Iq,p8,EV]
 | (i, x) :: ps, v :: vs, cells => by
   simp only[I9,Iq,List.map_cons,p8,EV,Ec place ps vs]
theorem FE {t:TypeId}(ps:List (Nat×Operand))(vs:List AV):Bt P t (I9 ps vs)=IT P t (Iq ps (vs.map AV.cells)):=by
 unfold Bt IT
 simp only[Ec]
 cases uS P t with
 | none=>rfl
 | some z =>
   cases P.underlying t with
   | none=>rfl
   | some d=>cases d <;> rfl
theorem Fp {o:Oper}(hp:Cn C f o s=some (v,s'))(hc:mA s'.cs):mA s.cs∧s'.ov=s.ov∧s'.ds=s.ds∧Dj o.op=true∧ ∀ ts,oG N s.ov ts→Df C f ts s.st o=some (v,s'.st):=by
 unfold Cn at hp
 obtain⟨hk,hp⟩:=fV hp
 simp only[Bool.not_eq_false'] at hk
 simp only[Option.bind_eq_some_iff] at hp
 obtain⟨vs,hvs,hp⟩:=hp
 have key:∀ ts,oG N s.ov ts→Df C f vs s.st { o with op:=kX o.op }=Df C f ts s.st o:=fun ts ht=>OP hk (qS ht hvs)
 split at hp
 ·simp only[Option.bind_eq_some_iff,Option.some.injEq,Prod.mk.injEq] at hp
  obtain⟨r,h1,rfl,rfl⟩:=hp
  exact⟨hc,rfl,rfl,hk,fun ts ht=>by rw[← key ts ht,h1]⟩
 ·simp only[Option.bind_eq_some_iff] at hp
  obtain⟨r,h1,hp⟩:=hp
  split at hp
  ·rename_i b hb
   simp only[Option.some.injEq,Prod.mk.injEq] at hp
   obtain⟨rfl,rfl⟩:=hp
   have:=hc.head
   subst this
   exact⟨hc.tail,rfl,rfl,hk,fun ts ht=>by rw[← key ts ht,h1,← hb]⟩
  ·cases hp
 ·split at hp
  ·rename_i ho
   simp only[Option.some.injEq,Prod.mk.injEq] at hp
   obtain⟨rfl,rfl⟩:=hp
   have:=hc.head
   refine⟨hc.tail,rfl,rfl,hk,fun ts ht=>?_⟩
   rw[← key ts ht]
   unfold Df
   simp only[xW hk,ho,this,Option.bind_some]
  ·rename_i ho
   simp only[Option.some.injEq,Prod.mk.injEq] at hp
   obtain⟨rfl,rfl⟩:=hp
   have:=hc.head
   refine⟨hc.tail,rfl,rfl,hk,fun ts ht=>?_⟩
   rw[← key ts ht]
   unfold Df
   simp only[xW hk,ho,D7 hk (qS ht hvs),this,Option.bind_some]
  ·cases hp
 ·split at hp
  ·rename_i t ps ho
   simp only[Option.bind_eq_some_iff,Option.some.injEq,Prod.mk.injEq] at hp
   obtain⟨v1,h1,rfl,rfl⟩:=hp
   have:=hc.head
   refine⟨hc.tail,rfl,rfl,hk,fun ts ht=>?_⟩
   have h2:=qS ht hvs
   rw[ho] at h2
   unfold Df
   rw[ho]
   simp only[lW,gN]
   rw[Fk (by simpa[Op.operands] using h2)]
   simp only[Option.bind_some]
   rw[FE,this,h1]
   rfl
  ·cases hp
 ·split at hp
  ·rename_i ho
   simp only[Option.some.injEq,Prod.mk.injEq] at hp
   obtain⟨rfl,rfl⟩:=hp
   have:=hc.head
   refine⟨hc.tail,rfl,rfl,hk,fun ts ht=>?_⟩
   rw[← key ts ht]
   unfold Df
   simp only[xW hk,ho,this]
  ·rename_i ho
   simp only[Option.some.injEq,Prod.mk.injEq] at hp
   obtain⟨rfl,rfl⟩:=hp
   have:=hc.head
   refine⟨hc.tail,rfl,rfl,hk,fun ts ht=>?_⟩
   rw[← key ts ht]
   unfold Df
   simp only[xW hk,ho]
   rw[Option.bind_eq_some_iff]
   obtain⟨a,h1,h2,h3⟩:=this
   exact⟨a,h1,by rw[h2,h3]⟩
  ·cases hp
 ·cases hp
theorem HB {o:Oper}{st st':St}(hk:Dj o.op=true)(h:Df C f ts st o=some (v,st'))(k:AV→List nU→St→Bool):vX C ck f ro ts st o k=k v [] st':=by
 unfold vX
 split
 ·rename_i e; rw[e] at hk; cases hk
 ·rename_i e; rw[e] at hk; cases hk
 ·rename_i e; rw[e] at hk; cases hk
 ·rename_i e; rw[e] at hk; cases hk
 ·rw[h]
theorem MM {o : Oper} (hp : PY C ck f ro o s = some (v, s')) (hc : mA s'.cs) :
 mA s.cs∧s'.ov=s.ov∧ ∃ nd,s'.ds=nd ++ s.ds∧ ∀ ts,oG N s.ov ts→ ∀ k,vX C ck f ro ts s.st o k=k v nd s'.st:=by
 unfold PY at hp
 split at hp
 ·rename_i x args tys e
  split at hp
  ·rename_i v0 st0 hs0 e0
   simp only[Option.bind_eq_some_iff] at hp
   obtain⟨fv,h1,a_,h2,hp⟩:=hp
   split at hp
   ·simp only[Option.some.injEq,Prod.mk.injEq] at hp
    obtain⟨rfl,rfl⟩:=hp
    obtain⟨p,hd⟩:=hc.head
    refine⟨hc.tail,rfl,[],rfl,fun ts ht k=>?_⟩
    unfold vX
    rw[e]
    simp only[yI ht h1,qS ht h2,hd]
   ·simp only[Option.some.injEq,Prod.mk.injEq] at hp
    obtain⟨rfl,rfl⟩:=hp
    obtain⟨p,hd⟩:=hc.head
    refine⟨hc.tail,rfl,[],rfl,fun ts ht k=>?_⟩
    unfold vX
    rw[e]
    simp only[yI ht h1,qS ht h2,hd]
   ·cases hp
  ·cases hp
 ·rename_i x name args tys e
  split at hp
  ·rename_i v0 st0 hs0 e0
   simp only[Option.bind_eq_some_iff] at hp
   obtain⟨fv,h1,a_,h2,hp⟩:=hp
   split at hp
   ·simp only[Option.bind_eq_some_iff] at hp
    obtain⟨⟨g,r⟩,h3,hp⟩:=hp
    simp only[Option.some.injEq,Prod.mk.injEq] at hp
    obtain⟨rfl,rfl⟩:=hp
    obtain⟨p,hd⟩:=hc.head
    refine⟨hc.tail,rfl,[],rfl,fun ts ht k=>?_⟩
    unfold vX
    rw[e]
    simp only[yI ht h1,qS ht h2,h3,hd]
   ·cases hp
  ·cases hp
 ·rename_i x args tys e
  obtain⟨hro,hp⟩:=fV hp
  simp only[Option.bind_eq_some_iff] at hp
  obtain⟨fv,h1,ks,h2,hp⟩:=hp
  split at hp
  ·simp only[Option.some.injEq,Prod.mk.injEq] at hp
   obtain⟨rfl,rfl⟩:=hp
   refine⟨hc,rfl,[_],rfl,fun ts ht k=>?_⟩
   unfold vX
   rw[e]
   simp only[hro,cond_false,yI ht h1,qS ht h2]
  ·cases hp
 ·cases hp
 ·cases hp
 ·obtain⟨h1,h2,h5,h3,h4⟩:=Fp hp hc
  exact⟨h1,h2,[],h5,fun ts ht k=>HB h3 (h4 ts ht) k⟩
theorem MT {o:Oper}(hp:Lh C ck f ro N ops o s=some s')(hc:mA s'.cs):
 mA s.cs∧ ∀ ts ds,oG N s.ov ts→ ∃ ts',oG N s'.ov ts'∧(∀ t,o.dst≠some t→ts'.getD t AV.undef=ts.getD t AV.undef)∧ ∀ k,CM C ck f ro ops o ⟨ts,s.ds ++ ds,s.st⟩ k=k ⟨ts',s'.ds ++ ds,s'.st⟩:=by
 unfold Lh at hp
 simp only[Option.bind_eq_some_iff] at hp
 obtain⟨w,hw,hp⟩:=hp
 cases w with
 | true =>
   simp only[Option.bind_eq_some_iff,Option.some.injEq] at hp
   obtain⟨⟨v,s1⟩,h1,ov,h2,rfl⟩:=hp
   obtain⟨k1,k2,nd,k4,k3⟩:=MM (ro:=ro) (N:=N) h1 hc
   refine⟨k1,fun ts ds ht=>?_⟩
   simp only[k2] at h2
   obtain⟨p1,p2⟩:=C1 ht h2
   refine⟨_,p1,p2,fun k=>?_⟩
   unfold CM
   simp only[uV ht hw,k3 ts ht]
   have e4:s1.ds=nd ++ s.ds:=k4
   simp only[e4,List.append_assoc]
 | false =>
   simp only[Option.bind_eq_some_iff,Option.some.injEq] at hp
   obtain⟨ov,h2,rfl⟩:=hp
   refine⟨hc,fun ts ds ht=>?_⟩
   obtain⟨p1,p2⟩:=C1 ht h2
   refine⟨_,p1,p2,fun k=>?_⟩
   unfold CM
   simp only[uV ht hw]
theorem Ia {l:List Nat}{n:Nat}(h:GK l n=false):n ∉ l:=by
 intro hm
 have:GK l n=true:=List.any_eq_true.2 ⟨n,hm,by simp⟩
 rw[this] at h; cases h
theorem Cz {l:List Nat}{n:Nat}(h:n ∉ l):GK l n=false:=by
 cases e:GK l n with
 | false=>rfl
 | true =>
   obtain⟨m,h1,h2⟩:=List.any_eq_true.1 e
   have : n = m := by have : m = n := by simpa using h2
                      exact this.symm
   subst this
   exact absurd h1 h
theorem wA {o:Oper}{t:Nat}:∀{l:List Oper},o ∈ l→o.dst=some t→t ∈ yT l
 | a :: l, hm, ht => by
   unfold yT
   rcases List.mem_cons.1 hm with rfl | hm
   ·rw[ht]; exact List.mem_cons_self
   ·split
    ·exact List.mem_cons_of_mem _ (wA hm ht)
    ·exact wA hm ht
theorem JJ:∀{l:List Oper} {s s':OS},LC C ck f ro N ops l s=some s'→mA s'.cs →
 mA s.cs∧ ∀ ts ds,oG N s.ov ts→ ∃ ts',oG N s'.ov ts'∧(∀ t,t ∉ yT l→ts'.getD t AV.undef=ts.getD t AV.undef)∧ ∀ k,yF C ck f ro ops l ⟨ts,s.ds ++ ds,s.st⟩ k=k ⟨ts',s'.ds ++ ds,s'.st⟩
 | [], s, s', hp, hc => by
   simp only[LC,Option.some.injEq] at hp
   subst hp
   exact⟨hc,fun ts ds ht=>⟨ts,ht,fun _ _=>rfl,fun k=>rfl⟩⟩
 | o :: l, s, s', hp, hc => by
   simp only[LC,Option.bind_eq_some_iff] at hp
   obtain⟨s1,h1,h2⟩:=hp
   obtain⟨c1,k2⟩:=JJ h2 hc
   obtain⟨c0,k1⟩:=MT (ro:=ro) h1 c1
   refine⟨c0,fun ts ds ht=>?_⟩
   obtain⟨ts1,t1,p1,e1⟩:=k1 ts ds ht
   obtain⟨ts2,t2,p2,e2⟩:=k2 ts1 ds t1
   refine⟨ts2,t2,fun t hm=>?_,fun k=>?_⟩
   ·rw[p2 t (fun h=>hm (by unfold yT; split <;> simp[h])),p1 t (fun h=>hm (wA List.mem_cons_self h))]
   ·simp only[yF,e1,e2]
theorem Fl {st:St}:∀{rd:List Rd} {cs:List Prop},mA (J0 P st rd cs)→mA cs∧rd.all (GY P st)=true
 | [],_,h=>⟨h,rfl⟩
 | r :: rd, cs, h => by
   obtain⟨h1,h2⟩:=Fl h.tail
   obtain⟨h3,h4⟩:=h.head
   refine⟨h1,?_⟩
   simp only[List.all_cons,h2,Bool.and_true,GY,h3,h4]
theorem O4 (h:oG N ov ts){vs:List AV}{o:Oper}(hv:Az ov o.op.operands.toList=some vs)(i:Nat)(v:AV):Pu P ov i o v=NP P ts i o v:=by
 unfold Pu NP
 rw[hv,qS h hv]
 cases lW P o.op <;> rfl
theorem G5 {o:Oper}(hp:Cn C f o s=some (v,s')):∃ vs,Az s.ov o.op.operands.toList=some vs:=by
 unfold Cn at hp
 obtain⟨hk,hp⟩:=fV hp
 simp only[Option.bind_eq_some_iff] at hp
 obtain⟨vs,hvs,_⟩:=hp
 exact⟨vs,hvs⟩
theorem Bc : ∀ {l : List qC} {rd : List Rd} {s s' : OS}, Dt C ck f ro N ops l rd s = some s' → mA s'.cs →
 mA s.cs∧ ∀ ts ds,oG N s.ov ts→ ∃ ts',oG N s'.ov ts'∧(∀ t,(∀ p ∈ l,p.o.dst≠some t)→ts'.getD t AV.undef=ts.getD t AV.undef)∧ ∀ k,jP C ck f ro ops l rd ⟨ts,s.ds ++ ds,s.st⟩ k=k ⟨ts',s'.ds ++ ds,s'.st⟩
 | [], rd, s, s', hp, hc => by
   simp only[Dt,Option.some.injEq] at hp
   subst hp
   exact⟨hc,fun ts ds ht=>⟨ts,ht,fun _ _=>rfl,fun k=>rfl⟩⟩
 | p :: l, rd, s, s', hp, hc => by
   simp only[Dt,Option.bind_eq_some_iff] at hp
   obtain⟨w,hw,hp⟩:=hp
   cases w with
   | false =>
     simp only[Option.bind_eq_some_iff] at hp
     obtain⟨ov,h1,h2⟩:=hp
     obtain⟨c1,k2⟩:=Bc h2 hc
     refine⟨c1,fun ts ds ht=>?_⟩
     obtain⟨p1,p2⟩:=C1 ht h1
     obtain⟨ts2,t2,q2,e2⟩:=k2 _ ds p1
     refine⟨ts2,t2,fun t hm=>?_,fun k=>?_⟩
     ·rw[q2 t (fun x hx=>hm x (List.mem_cons_of_mem _ hx)),p2 t (hm p List.mem_cons_self)]
     ·unfold jP
      simp only[uV ht hw,e2]
   | true =>
     simp only at hp
     split at hp
     ·rename_i he
      simp only[Option.bind_eq_some_iff] at hp
      obtain⟨⟨v,s1⟩,h1,ov,h2,h3⟩:=hp
      obtain⟨c1,k2⟩:=Bc h3 hc
      obtain⟨c0,e0,e5,_,k1⟩:=Fp (N:=N) h1 c1
      refine⟨c0,fun ts ds ht=>?_⟩
      simp only[e0] at h2
      obtain⟨p1,p2⟩:=C1 ht h2
      obtain⟨ts2,t2,q2,e2⟩:=k2 _ ds p1
      refine⟨ts2,t2,fun t hm=>?_,fun k=>?_⟩
      ·rw[q2 t (fun x hx=>hm x (List.mem_cons_of_mem _ hx)),p2 t (hm p List.mem_cons_self)]
      ·obtain⟨vs,hvs⟩:=G5 h1
       rw[O4 ht hvs] at e2
       have e5:s1.ds=s.ds:=e5
       simp only[e5] at e2
       unfold jP
       simp only[uV ht hw,he,k1 ts ht,e2]
     ·rename_i he
      simp only[Option.bind_eq_some_iff] at hp
      obtain⟨⟨v,s1⟩,h1,ov,h2,h3⟩:=hp
      obtain⟨c1,k2⟩:=Bc h3 hc
      obtain⟨c1,hr⟩:=Fl c1
      obtain⟨c0,e0,nd,e5,k1⟩:=MM (ro:=ro) (N:=N) h1 c1
      refine⟨c0,fun ts ds ht=>?_⟩
      simp only[e0] at h2
      obtain⟨p1,p2⟩:=C1 ht h2
      obtain⟨ts2,t2,q2,e2⟩:=k2 _ ds p1
      refine⟨ts2,t2,fun t hm=>?_,fun k=>?_⟩
      ·rw[q2 t (fun x hx=>hm x (List.mem_cons_of_mem _ hx)),p2 t (hm p List.mem_cons_self)]
      ·unfold jP
       have e5:s1.ds=nd ++ s.ds:=e5
       simp only[e5,List.append_assoc] at e2
       simp only[uV ht hw,he,k1 ts ht,hr,cond_true]
       exact e2 k
theorem EJ (h:oG N ov ts):∀{l:List Nat} {outs:List (Nat×AV)},FY ov l=some outs→Has N outs ts
 | [], _, hp => by
   simp only[FY,Option.some.injEq] at hp
   subst hp
   exact⟨h.1,fun _ hm=>by cases hm⟩
 | t :: l, outs, hp => by
   simp only[FY,Option.bind_eq_some_iff,Option.some.injEq] at hp
   obtain⟨v,h1,l',h2,rfl⟩:=hp
   have h3:=EJ h h2
   refine⟨h.1,fun p hm=>?_⟩
   rcases List.mem_cons.1 hm with rfl | hm
   ·exact h.2 t v h1
   ·exact h3.2 p hm
theorem EI : ∀ (o : Tr AV) (n m : Nat), (Ke o n).get m = if m = n then none else o.get m
 | .leaf,n,m=>by simp[Ke,Tr.get]
 | .node l v r, n, m => by
   simp only[Ke,iM]
   by_cases h0:n=0
   ·subst h0
    simp only[if_true,Tr.get,iM]
    by_cases hm:m=0 <;> simp[hm]
   ·rw[if_neg h0]
    by_cases h1:n % 2=1
    ·rw[if_pos h1]
     simp only[Tr.get,iM,EI l]
     by_cases hm:m=0
     ·subst hm; rw[if_pos rfl,if_pos rfl,if_neg (by omega)]
     ·rw[if_neg hm,if_neg hm]
      by_cases hm1:m % 2=1
      ·rw[if_pos hm1,if_pos hm1]
       by_cases e:m=n
       ·subst e; simp
       ·rw[if_neg e,if_neg (by omega)]
      ·rw[if_neg hm1,if_neg hm1,if_neg (by omega)]
    ·rw[if_neg h1]
     simp only[Tr.get,iM,EI r]
     by_cases hm:m=0
     ·subst hm; rw[if_pos rfl,if_pos rfl,if_neg (by omega)]
     ·rw[if_neg hm,if_neg hm]
      by_cases hm1:m % 2=1
      ·rw[if_pos hm1,if_pos hm1,if_neg (by omega)]
      ·rw[if_neg hm1,if_neg hm1]
       by_cases e:m=n
       ·subst e; simp
       ·rw[if_neg e,if_neg (by omega)]
theorem FX:∀(l:List Nat) (o:Tr AV) (m:Nat),(Hh o l).get m=if m ∈ l then none else o.get m
 | [],o,m=>by simp[Hh]
 | t :: l, o, m => by
   simp only[Hh,FX l,EI,List.mem_cons]
   by_cases h1:m ∈ l <;> by_cases h2:m=t <;> simp[h1,h2]
theorem Ek : ∀ {l : List (Nat × AV)} {o o' : Tr AV}, Av N o l = some o' → ∀ t v, o'.get t = some v → (∃ p ∈ l, p = (t, v)) ∨ o.get t = some v
 | [], o, o', h, t, v, hv => by
   simp only[Av,Option.some.injEq] at h
   subst h
   exact .inr hv
 | (a, u) :: l, o, o', h, t, v, hv => by
   simp only[Av] at h
   obtain⟨_,h⟩:=bC h
   rcases Ek h t v hv with⟨p,h1,h2⟩ | h3
   ·exact .inl ⟨p,List.mem_cons_of_mem _ h1,h2⟩
   ·rw[Tr.cH] at h3
    split at h3
    ·rename_i e
     subst e
     exact .inl ⟨_,List.mem_cons_self,by rw[Option.some.inj h3]⟩
    ·exact .inr h3
theorem Has.Px {l:List (Nat×AV)}(h:Has N l ts)(hs:Av N .leaf l=some ov):oG N ov ts:=
 ⟨h.1,fun t v hv=>by
  rcases Ek hs t v hv with⟨p,h1,rfl⟩ | h2
  ·exact h.2 _ h1
  ·cases h2⟩
theorem Di {run:Fr→(cZ→Fr→Bool)→Bool}{mods ins:List Nat}{e e':cZ}{outs:List (Nat×AV)}{st':St}{hs:List Hint}
 (hp:Kj N run mods ins e outs st' hs s=some (e',s')) (hc:mA s'.cs):
 mA s.cs∧ ∀ ts ds,oG N s.ov ts→ ∃ ts',oG N s'.ov ts'∧(∀ t,t ∉ mods→ts'.getD t AV.undef=ts.getD t AV.undef)∧ ∀ k,run ⟨ts,s.ds ++ ds,s.st⟩ k=k e' ⟨ts',s'.ds ++ ds,s'.st⟩:=by
 simp only[Kj,Option.bind_eq_some_iff,Option.some.injEq,Prod.mk.injEq] at hp
 obtain⟨l,h1,ov,h2,rfl,rfl⟩:=hp
 refine⟨hc.tail,fun ts ds ht=>?_⟩
 obtain⟨ts',k1,k2,k3⟩:=hc.head ts (s.ds ++ ds) (EJ ht h1)
 refine⟨ts',⟨k1.1,fun t v hv=>?_⟩,fun t ht'=>k2 t (Cz ht'),k3⟩
 rcases Ek h2 t v hv with⟨p,h3,rfl⟩ | h3
 ·exact k1.2 _ h3
 ·rw[FX] at h3
  split at h3
  ·cases h3
  ·rename_i hm
   rw[k2 t (Cz hm)]
   exact ht.2 t v h3
theorem IQ {P : Program} {ol : List Oper} {befs : List Nat} : ∀ {n mask : Nat} {l : List qC}, yO P ol befs n mask = some l → ∀ p ∈ l, p.o ∈ ol := by
 have rd_mem:∀{os:List Oper} {i mask:Nat} {x:Nat×Oper},x ∈ readies ol mask os i→x.2 ∈ os:=by
  intro os
  induction os with
  | nil=>intro i mask x h; cases h
  | cons a os ih =>
    intro i mask x h
    simp only[readies] at h
    cases hc:yZ ol mask i a with
    | true =>
      rw[hc] at h
      simp only[cond_true] at h
      rcases List.mem_cons.1 h with rfl | h
      ·exact List.mem_cons_self
      ·exact List.mem_cons_of_mem _ (ih h)
    | false =>
      rw[hc] at h
      exact List.mem_cons_of_mem _ (ih h)
 intro n
 induction n with
 | zero =>
   intro mask l h p hp
   simp only[yO] at h
   split at h
   ·obtain rfl:=Option.some.inj h; cases hp
   ·cases h
 | succ n ih =>
   intro mask l h p hp
   simp only[yO] at h
   split at h
   ·rename_i i o e
    simp only[Option.bind_eq_some_iff,Option.some.injEq] at h
    obtain⟨l',h1,rfl⟩:=h
    rcases List.mem_cons.1 hp with rfl | hp
    ·exact rd_mem (List.mem_of_find?_eq_some e)
    ·exact ih h1 p hp
   ·obtain rfl:=Option.some.inj h; cases hp
   ·rename_i i o e1 e2
    simp only[Option.bind_eq_some_iff,Option.some.injEq] at h
    obtain⟨l',h1,rfl⟩:=h
    rcases List.mem_cons.1 hp with rfl | hp
    ·have:(i,o) ∈ readies ol mask ol 0:=by rw[e2]; exact List.mem_cons_self
     exact rd_mem this
    ·exact ih h1 p hp
   ·cases h
theorem MS {P:Program}{l:List qC}(h:KK P ops=some l):∀ p ∈ l,p.o ∈ ops.toList:=by
 unfold KK at h
 simp only at h
 exact IQ (bC h).2
theorem En : ∀ {c : Code} {s : OS} {e : cZ} {s' : OS}, mX C ck f rounds ro N c s = some (e, s') → mA s'.cs →
 mA s.cs∧ ∀ ts ds,oG N s.ov ts→ ∃ ts',oG N s'.ov ts'∧(∀ t,t ∉ bG c→ts'.getD t AV.undef=ts.getD t AV.undef)∧ ∀ k,bN C ck f rounds ro c ⟨ts,s.ds ++ ds,s.st⟩ k=k e ⟨ts',s'.ds ++ ds,s'.st⟩:=by
 intro c
 induction c with
 | skip =>
   intro s e s' h hc
   simp only[mX,Option.some.injEq,Prod.mk.injEq] at h
   obtain⟨rfl,rfl⟩:=h
   exact⟨hc,fun ts ds ht=>⟨ts,ht,fun _ _=>rfl,fun k=>rfl⟩⟩
 | region id ops draw =>
   intro s e s' h hc
   have plain:∀{s0:OS},s0=s→Mr C ck f ro N ops draw s0=some (e,s') →
    mA s.cs∧ ∀ ts ds,oG N s.ov ts→ ∃ ts',oG N s'.ov ts'∧(∀ t,t ∉ bG (.region id ops draw)→ts'.getD t AV.undef=ts.getD t AV.undef)∧ ∀ k,bN C ck f rounds ro (.region id ops draw) ⟨ts,s.ds ++ ds,s.st⟩ k=k e ⟨ts',s'.ds ++ ds,s'.st⟩:=by
    intro s0 e0 hh
    subst e0
    cases draw with
    | false =>
      simp only[Mr,Option.bind_eq_some_iff,Option.some.injEq,Prod.mk.injEq] at hh
      obtain⟨s1,h1,rfl,rfl⟩:=hh
      obtain⟨c0,k1⟩:=JJ (ro:=ro) h1 hc
      refine⟨c0,fun ts ds ht=>?_⟩
      obtain⟨ts1,t1,p1,e1⟩:=k1 ts ds ht
      exact⟨ts1,t1,p1,fun k=>by simp only[bN,e1]⟩
    | true =>
      simp only[Mr,Option.bind_eq_some_iff,Option.some.injEq,Prod.mk.injEq] at hh
      obtain⟨l,h0,s1,h1,rfl,rfl⟩:=hh
      obtain⟨c0,k1⟩:=Bc (ro:=ro) h1 hc
      refine⟨c0,fun ts ds ht=>?_⟩
      obtain⟨ts1,t1,p1,e1⟩:=k1 ts ds ht
      exact⟨ts1,t1,fun t hm=>p1 t fun p hp hd=>hm (wA (MS h0 p hp) hd),fun k=>by simp only[bN,h0,e1]⟩
   simp only[mX] at h
   split at h
   ·exact Di h hc
   ·exact plain rfl h
 | seq a b iha ihb =>
   intro s e s' h hc
   simp only[mX,Option.bind_eq_some_iff] at h
   obtain⟨⟨e1,s1⟩,h1,h⟩:=h
   cases e1 with
   | normal =>
     simp only at h
     obtain⟨c1,k2⟩:=ihb h hc
     obtain⟨c0,k1⟩:=iha h1 c1
     refine⟨c0,fun ts ds ht=>?_⟩
     obtain⟨ts1,t1,p1,e1⟩:=k1 ts ds ht
     obtain⟨ts2,t2,p2,e2⟩:=k2 ts1 ds t1
     refine⟨ts2,t2,fun t hm=>?_,fun k=>by simp only[bN,e1,e2]⟩
     simp only[bG,List.mem_append,not_or] at hm
     rw[p2 t hm.2,p1 t hm.1]
   | exit i =>
     simp only[Option.some.injEq,Prod.mk.injEq] at h
     obtain⟨rfl,rfl⟩:=h
     obtain⟨c0,k1⟩:=iha h1 hc
     refine⟨c0,fun ts ds ht=>?_⟩
     obtain⟨ts1,t1,p1,e1⟩:=k1 ts ds ht
     refine⟨ts1,t1,fun t hm=>?_,fun k=>by simp only[bN,e1]⟩
     simp only[bG,List.mem_append,not_or] at hm
     exact p1 t hm.1
   | ret =>
     simp only[Option.some.injEq,Prod.mk.injEq] at h
     obtain⟨rfl,rfl⟩:=h
     obtain⟨c0,k1⟩:=iha h1 hc
     refine⟨c0,fun ts ds ht=>?_⟩
     obtain⟨ts1,t1,p1,e1⟩:=k1 ts ds ht
     refine⟨ts1,t1,fun t hm=>?_,fun k=>by simp only[bN,e1]⟩
     simp only[bG,List.mem_append,not_or] at hm
     exact p1 t hm.1
 | cond c a b iha ihb =>
   intro s e s' h hc
   have yes:∀{s0:OS},mX C ck f rounds ro N a s0=some (e,s')→s0.ov=s.ov→s0.st=s.st→s0.ds=s.ds→mA s0.cs=mA s.cs→Gg s.ov c=some (.bool true) →
    mA s.cs∧ ∀ ts ds,oG N s.ov ts→ ∃ ts',oG N s'.ov ts'∧(∀ t,t ∉ bG (.cond c a b)→ts'.getD t AV.undef=ts.getD t AV.undef)∧ ∀ k,bN C ck f rounds ro (.cond c a b) ⟨ts,s.ds ++ ds,s.st⟩ k=k e ⟨ts',s'.ds ++ ds,s'.st⟩:=by
    intro s0 h g1 g2 g4 g3 hg
    obtain⟨c0,k1⟩:=iha h hc
    rw[g3] at c0
    rw[g1,g2,g4] at k1
    refine⟨c0,fun ts ds ht=>?_⟩
    obtain⟨ts1,t1,p1,e1⟩:=k1 ts ds ht
    refine⟨ts1,t1,fun t hm=>?_,fun k=>by simp only[bN,yI ht hg,e1]⟩
    simp only[bG,List.mem_append,not_or] at hm
    exact p1 t hm.1
   have no:∀{s0:OS},mX C ck f rounds ro N b s0=some (e,s')→s0.ov=s.ov→s0.st=s.st→s0.ds=s.ds→mA s0.cs=mA s.cs→Gg s.ov c=some (.bool false) →
    mA s.cs∧ ∀ ts ds,oG N s.ov ts→ ∃ ts',oG N s'.ov ts'∧(∀ t,t ∉ bG (.cond c a b)→ts'.getD t AV.undef=ts.getD t AV.undef)∧ ∀ k,bN C ck f rounds ro (.cond c a b) ⟨ts,s.ds ++ ds,s.st⟩ k=k e ⟨ts',s'.ds ++ ds,s'.st⟩:=by
    intro s0 h g1 g2 g4 g3 hg
    obtain⟨c0,k1⟩:=ihb h hc
    rw[g3] at c0
    rw[g1,g2,g4] at k1
    refine⟨c0,fun ts ds ht=>?_⟩
    obtain⟨ts1,t1,p1,e1⟩:=k1 ts ds ht
    refine⟨ts1,t1,fun t hm=>?_,fun k=>by simp only[bN,yI ht hg,e1]⟩
    simp only[bG,List.mem_append,not_or] at hm
    exact p1 t hm.2
   simp only[mX] at h
   split at h
   ·exact Di h hc
   ·split at h
    ·exact yes h rfl rfl rfl rfl ‹_›
    ·exact no h rfl rfl rfl rfl ‹_›
    ·cases h
   ·split at h
    ·exact yes h rfl rfl rfl rfl ‹_›
    ·exact no h rfl rfl rfl rfl ‹_›
    ·cases h
 | block id b ih =>
   intro s e s' h hc
   have core:∀{s0:OS},((mX C ck f rounds ro N b s0).bind fun r=>match r.1 with
    | .exit i=>some (cond (Nat.beq i id) .normal (.exit i),r.2)
    | e=>some (e,r.2))=some (e,s')→s0.ov=s.ov→s0.st=s.st→s0.ds=s.ds→s0.cs=s.cs →
    mA s.cs∧ ∀ ts ds,oG N s.ov ts→ ∃ ts',oG N s'.ov ts'∧(∀ t,t ∉ bG (.block id b)→ts'.getD t AV.undef=ts.getD t AV.undef)∧ ∀ k,bN C ck f rounds ro (.block id b) ⟨ts,s.ds ++ ds,s.st⟩ k=k e ⟨ts',s'.ds ++ ds,s'.st⟩:=by
    intro s0 h g1 g2 g3 g4
    simp only[Option.bind_eq_some_iff] at h
    obtain⟨⟨e1,s1⟩,h1,h⟩:=h
    cases e1 with
    | normal =>
      simp only[Option.some.injEq,Prod.mk.injEq] at h
      obtain⟨rfl,rfl⟩:=h
      obtain⟨c0,k1⟩:=ih h1 hc
      rw[g4] at c0
      rw[g1,g2,g3] at k1
      refine⟨c0,fun ts ds ht=>?_⟩
      obtain⟨ts1,t1,p1,e1⟩:=k1 ts ds ht
      exact⟨ts1,t1,p1,fun k=>by simp only[bN,e1]⟩
    | exit i =>
      simp only[Option.some.injEq,Prod.mk.injEq] at h
      obtain⟨rfl,rfl⟩:=h
      obtain⟨c0,k1⟩:=ih h1 hc
      rw[g4] at c0
      rw[g1,g2,g3] at k1
      refine⟨c0,fun ts ds ht=>?_⟩
      obtain⟨ts1,t1,p1,e1⟩:=k1 ts ds ht
      refine⟨ts1,t1,p1,fun k=>?_⟩
      simp only[bN,e1]
      cases Nat.beq i id <;> rfl
    | ret =>
      simp only[Option.some.injEq,Prod.mk.injEq] at h
      obtain⟨rfl,rfl⟩:=h
      obtain⟨c0,k1⟩:=ih h1 hc
      rw[g4] at c0
      rw[g1,g2,g3] at k1
      refine⟨c0,fun ts ds ht=>?_⟩
      obtain⟨ts1,t1,p1,e1⟩:=k1 ts ds ht
      exact⟨ts1,t1,p1,fun k=>by simp only[bN,e1]⟩
   simp only[mX] at h
   split at h
   ·exact Di h hc
   ·exact core h rfl rfl rfl rfl
   ·exact core h rfl rfl rfl rfl
 | loop b ih =>
   intro s e s' h hc
   simp only[mX] at h
   split at h
   ·exact Di h hc
   ·cases h
 | exit id =>
   intro s e s' h hc
   simp only[mX,Option.some.injEq,Prod.mk.injEq] at h
   obtain⟨rfl,rfl⟩:=h
   exact⟨hc,fun ts ds ht=>⟨ts,ht,fun _ _=>rfl,fun k=>rfl⟩⟩
 | label l =>
   intro s e s' h hc
   simp only[mX,Option.some.injEq,Prod.mk.injEq] at h
   obtain⟨rfl,rfl⟩:=h
   exact⟨hc,fun ts ds ht=>⟨ts,ht,fun _ _=>rfl,fun k=>rfl⟩⟩
 | scope b ih =>
   intro s e s' h hc
   simp only[mX] at h
   obtain⟨c0,k1⟩:=ih h hc
   refine⟨c0,fun ts ds ht=>?_⟩
   obtain⟨ts1,t1,p1,e1⟩:=k1 ts ds ht
   exact⟨ts1,t1,p1,fun k=>by simp only[bN,e1]⟩
 | ret =>
   intro s e s' h hc
   simp only[mX,Option.some.injEq,Prod.mk.injEq] at h
   obtain⟨rfl,rfl⟩:=h
   exact⟨hc,fun ts ds ht=>⟨ts,ht,fun _ _=>rfl,fun k=>rfl⟩⟩
 | _=>intro s e s' h hc; simp only[mX] at h; cases h
theorem aO {c:Code}{hs:List Hint}{ins:List (Nat×AV)}{st st':St}{want:List Nat}{cs:List Prop}{e:cZ}{outs:List (Nat×AV)}
 (h:PH C ck f rounds ro N c hs ins st want=some (cs,e,outs,st')) (hc:mA cs):cM N (bN C ck f rounds ro c) (bG c) ins st e outs st':=by
 simp only[PH,Option.bind_eq_some_iff,Option.some.injEq,Prod.mk.injEq] at h
 obtain⟨ov,h1,⟨e1,s1⟩,h2,h⟩:=h
 obtain⟨hde,h⟩:=fV h
 have hde:s1.ds=[]:=by simpa using hde
 simp only[Option.bind_eq_some_iff,Option.some.injEq,Prod.mk.injEq] at h
 obtain⟨outs1,h3,rfl,rfl,rfl,rfl⟩:=h
 obtain⟨_,k1⟩:=En h2 hc
 intro ts ds ht
 obtain⟨ts1,t1,p1,e1⟩:=k1 ts ds (ht.Px h1)
 simp only[hde,List.nil_append] at e1
 exact⟨ts1,EJ t1 h3,fun t hm=>p1 t (Ia hm),e1⟩
theorem N1 {r:ResultVar}(hp:Mz P s r=some (v,s'))(hc:mA s'.cs):mA s.cs∧s'.ov=s.ov∧s'.st=s.st∧ ∀ ts,oG N s.ov ts→vP P ts s.st r=some v:=by
 cases r with
 | tmp t =>
   simp only[Mz,Option.bind_eq_some_iff,Option.some.injEq,Prod.mk.injEq] at hp
   obtain⟨u,h1,rfl,rfl⟩:=hp
   exact⟨hc,rfl,rfl,fun ts ht=>by simp only[vP,ht.2 t _ h1]⟩
 | cell a t =>
   simp only[Mz,Option.bind_eq_some_iff] at hp
   obtain⟨p,h1,hp⟩:=hp
   split at hp
   ·simp only[Option.some.injEq,Prod.mk.injEq] at hp
    obtain⟨rfl,rfl⟩:=hp
    have:=hc.head
    exact⟨hc.tail,rfl,rfl,fun ts ht=>by simp only[vP,ht.2 a _ h1,this]⟩
   ·simp only[Option.bind_eq_some_iff,Option.some.injEq,Prod.mk.injEq] at hp
    obtain⟨u,h2,rfl,rfl⟩:=hp
    exact⟨hc,rfl,rfl,fun ts ht=>by simp only[vP,ht.2 a _ h1,h2]⟩
theorem Ew:∀{rs:List ResultVar} {vs:List AV} {s s':OS},D4 P s rs=some (vs,s')→mA s'.cs→mA s.cs∧s'.ov=s.ov∧s'.st=s.st∧ ∀ ts,oG N s.ov ts→oO P ts s.st rs=some vs
 | [], vs, s, s', hp, hc => by
   simp only[D4,Option.some.injEq,Prod.mk.injEq] at hp
   obtain⟨rfl,rfl⟩:=hp
   exact⟨hc,rfl,rfl,fun _ _=>rfl⟩
 | r :: rs, vs, s, s', hp, hc => by
   simp only[D4,Option.bind_eq_some_iff,Option.some.injEq,Prod.mk.injEq] at hp
   obtain⟨⟨v,s1⟩,h1,⟨ws,s2⟩,h2,rfl,rfl⟩:=hp
   obtain⟨c1,e1,e2,k2⟩:=Ew h2 hc
   obtain⟨c0,e3,e4,k1⟩:=N1 (N:=N) h1 c1
   simp only at e1 e2 e3 e4 k1 k2
   refine⟨c0,e1.trans e3,e2.trans e4,fun ts ht=>?_⟩
   have h3:=k2 ts (by rw[e3]; exact ht)
   rw[e4] at h3
   simp only[oO,k1 ts ht,h3,Option.bind_some]
theorem HC:∀(args pre post:List AV),Has (pre ++ args ++ post).length (Hp pre.length args) (pre ++ args ++ post)
 | [],pre,post=>⟨rfl,fun _ h=>by cases h⟩
 | a :: args, pre, post => by
   have h:=HC args (pre ++ [a]) post
   simp only[List.append_assoc,List.singleton_append,List.length_append,List.length_cons,List.length_nil,Nat.zero_add,List.cons_append] at h ⊢
   refine⟨by simp,fun p hm=>?_⟩
   rcases List.mem_cons.1 hm with rfl | hm
   ·simp[List.getD]
   ·exact h.2 p hm
theorem JX:∀{ds:List nU} {s s':OS},Ix ck ds s=some s'→mA s'.cs→mA s.cs∧s'.ov=s.ov∧ ∀ k,lH ck ds s.st k=k s'.st
 | [], s, s', h, hc => by
   simp only[Ix,Option.some.injEq] at h
   subst h
   exact⟨hc,rfl,fun k=>rfl⟩
 | .mark _ :: ds,s,s',h,hc=>by simp only[Ix] at h; cases h
 | .call g ks :: ds, s, s', h, hc => by
   simp only[Ix] at h
   split at h
   ·obtain⟨c1,e1,k1⟩:=JX h hc
    refine⟨c1.tail,e1,fun k=>?_⟩
    have:=c1.head
    simp only[EY] at this
    simp only[lH,this,cond_true]
    exact k1 k
   ·cases h
theorem KF {c:Code}{fn:Func}{ov:Tr AV}{st:St}{hs:List Hint}{args:List AV}{e:cZ}{s1:OS}(hl:args.length≤fn.ntmps)(h4:Av fn.ntmps .leaf (Hp 0 args)=some ov):oG fn.ntmps ov (IC fn.ntmps args):=by
 have h6:=HC args [] (List.replicate (fn.ntmps - args.length) AV.undef)
 simp only[List.nil_append,List.length_nil,List.length_append,List.length_replicate] at h6
 rw[show args.length+(fn.ntmps - args.length)=fn.ntmps by omega] at h6
 exact h6.Px h4
theorem aL {ext:Ext}{n:Nat}{hs:List Hint}{args:List AV}{st st':St}{cs:List Prop}
 (h:Nw C (aR C ext rounds n) f rounds hs args st=some (cs,v,st')) (hc:mA cs) (he:ext f args=none) (hm:C.Bi f args st=none):
 b7 (aR C ext rounds (n+1)) false f args st v st':=by
 simp only[Nw,Option.bind_eq_some_iff] at h
 obtain⟨fn,h1,h⟩:=h
 obtain⟨h2,h⟩:=fV h
 simp only[Bool.or_eq_false_iff] at h2
 simp only[Option.bind_eq_some_iff] at h
 obtain⟨c,h3,ov,h4,⟨e,s1⟩,h5,h⟩:=h
 have hl:args.length≤fn.ntmps:=by
  have:=h2.2
  simp only[Nat.blt,Nat.ble_eq,Bool.eq_false_iff,ne_eq] at this
  omega
 have ht:=KF (c:=c) (st:=st) (hs:=hs) (e:=e) (s1:=s1) hl h4
 have fin:(∀ i,e≠.exit i)→((Ix (aR C ext rounds n) s1.ds s1).bind fun s=>(D4 C.P s fn.results.toList).bind fun vs=>some (vs.2.cs,single vs.1,vs.2.st))=some (cs,v,st')→b7 (aR C ext rounds (n+1)) false f args st v st':=by
  intro hne h
  simp only[Option.bind_eq_some_iff,Option.some.injEq,Prod.mk.injEq] at h
  obtain⟨s3,h0,⟨vs,s2⟩,h6,rfl,rfl,rfl⟩:=h
  obtain⟨c1,_,e3,h7⟩:=Ew (N:=fn.ntmps) h6 hc
  have e3:s2.st=s3.st:=e3
  obtain⟨c2,e4,k2⟩:=JX h0 c1
  obtain⟨_,k1⟩:=En h5 c2
  obtain⟨ts1,t1,_,e1⟩:=k1 _ [] ht
  simp only[List.append_nil] at e1
  have h8:=h7 ts1 (by rw[e4]; exact t1)
  refine⟨s1.ds.isEmpty,fun k=>?_⟩
  simp only[aR,he,hm,h1,h3,h2.1,cond_false,e1,e3]
  have fin2:qY C.P (aR C ext rounds n) fn ⟨ts1,s1.ds,s1.st⟩ k=k s1.ds.isEmpty (single vs) s3.st:=by
   simp only[qY,k2,h8]
  cases e with
  | normal=>exact fin2
  | exit i=>exact absurd rfl (hne i)
  | ret=>exact fin2
 cases e with
 | normal=>exact fin (fun i hh=>by cases hh) h
 | exit i=>simp only at h; cases h
 | ret=>exact fin (fun i hh=>by cases hh) h
theorem KU {ext:Ext}{n:Nat}{hs:List Hint}{args:List AV}{st st':St}{cs:List Prop}
 (h:M7 C (aR C ext rounds n) f rounds hs args st=some (cs,v,st')) (hc:mA cs) (he:ext f args=none) (hm:C.Bi f args st=none):
 EY (aR C ext rounds (n+1)) f args st v st':=by
 simp only[M7,Option.bind_eq_some_iff] at h
 obtain⟨fn,h1,h⟩:=h
 obtain⟨h2,h⟩:=fV h
 simp only[Bool.or_eq_false_iff] at h2
 simp only[Option.bind_eq_some_iff] at h
 obtain⟨c,h3,ov,h4,⟨e,s1⟩,h5,h⟩:=h
 have hl:args.length≤fn.ntmps:=by
  have:=h2.2
  simp only[Nat.blt,Nat.ble_eq,Bool.eq_false_iff,ne_eq] at this
  omega
 have ht:=KF (c:=c) (st:=st) (hs:=hs) (e:=e) (s1:=s1) hl h4
 have fin:(∀ i,e≠.exit i)→(cond (!s1.ds.isEmpty) none<|(D4 C.P s1 fn.results.toList).bind fun vs=>some (vs.2.cs,single vs.1,vs.2.st))=some (cs,v,st')→EY (aR C ext rounds (n+1)) f args st v st':=by
  intro hne h
  obtain⟨hde,h⟩:=fV h
  have hde:s1.ds=[]:=by simpa using hde
  simp only[Option.bind_eq_some_iff,Option.some.injEq,Prod.mk.injEq] at h
  obtain⟨⟨vs,s2⟩,h6,rfl,rfl,rfl⟩:=h
  obtain⟨c1,_,e3,h7⟩:=Ew (N:=fn.ntmps) h6 hc
  have e3:s2.st=s1.st:=e3
  obtain⟨_,k1⟩:=En h5 c1
  obtain⟨ts1,t1,_,e1⟩:=k1 _ [] ht
  simp only[List.append_nil,hde] at e1
  have h8:=h7 ts1 t1
  intro k
  simp only[aR,he,hm,h1,h3,h2.1,cond_false,e1,e3]
  have fin2:qY C.P (aR C ext rounds n) fn ⟨ts1,[],s1.st⟩ k=k true (single vs) s1.st:=by
   simp only[qY,lH,h8,List.isEmpty_nil]
  cases e with
  | normal=>exact fin2
  | exit i=>exact absurd rfl (hne i)
  | ret=>exact fin2
 cases e with
 | normal=>exact fin (fun i hh=>by cases hh) h
 | exit i=>simp only at h; cases h
 | ret=>exact fin (fun i hh=>by cases hh) h
def cZ.QA:cZ→Bool
 | .normal=>true
 | _=>false
section
variable {body:Fr→(cZ→Fr→Bool)→Bool}{mods:List Nat}{ins mid outs:List (Nat×AV)}{st st1 st':St}{e:cZ}{r:Nat}
theorem dP (hb:cM N body mods ins st .normal mid st1)(h:cM N (lO body r) mods mid st1 e outs st'):cM N (lO body (r+1)) mods ins st e outs st':=by
 intro ts ds ht
 obtain⟨ts1,t1,p1,e1⟩:=hb ts ds ht
 obtain⟨ts2,t2,p2,e2⟩:=h ts1 ds t1
 exact⟨ts2,t2,fun t hm=>by rw[p2 t hm,p1 t hm],fun k=>by simp only[lO,e1,e2]⟩
theorem cF (hb:cM N body mods ins st e outs st')(hne:e.QA=false):cM N (lO body (r+1)) mods ins st e outs st':=by
 intro ts ds ht
 obtain⟨ts1,t1,p1,e1⟩:=hb ts ds ht
 refine⟨ts1,t1,p1,fun k=>?_⟩
 simp only[lO,e1]
 cases e with
 | normal=>cases hne
 | exit i=>rfl
 | ret=>rfl
end
theorem cW {b:Code}{ins outs:List (Nat×AV)}{st st':St}{e:cZ}(h:cM N (lO (fun fr k=>bN C ck f rounds ro b fr k) rounds) (bG b) ins st e outs st'):
 cM N (bN C ck f rounds ro (.loop b)) (bG (.loop b)) ins st e outs st':=fun ts ds ht=>by
 obtain⟨ts1,t1,p1,e1⟩:=h ts ds ht
 exact⟨ts1,t1,p1,fun k=>by simp only[bN]; exact e1 k⟩
end
theorem lE {C:zV}{ext:Ext}{rounds n:Nat}{f:FuncId}{args:List AV}{v:AV}(h:ext f args=some v)(st:St):b7 (aR C ext rounds (n+1)) false f args st v st:=
 ⟨false,fun k=>by simp only[aR,h]⟩
theorem N6 {p:Prop}[Decidable p]{α:Type}{a b x:α}{G:Prop}(h:(if p then a else b)=x)(t:p→a=x→G)(f:¬p→b=x→G):G:=by
 by_cases hp:p
 ·rw[if_pos hp] at h; exact t hp h
 ·rw[if_neg hp] at h; exact f hp h
theorem Ln {α β:Type}{o:Option α}{g:α→Option β}{x:β}{G:Prop}(h:o.bind g=some x)(t:∀ a,o=some a→g a=some x→G):G:=by
 obtain⟨a,h1,h2⟩:=Option.bind_eq_some_iff.1 h
 exact t a h1 h2
end Go.Ev
end
section
set_option linter.all false
namespace Go.Ev
def Ha:List Nat→Code→Code
 | [],c=>c
 | 0 :: p,.seq a _=>Ha p a
 | _ :: p,.seq _ b=>Ha p b
 | 0 :: p,.cond _ a _=>Ha p a
 | _ :: p,.cond _ _ b=>Ha p b
 | _ :: p,.block _ b=>Ha p b
 | _ :: p,.loop b=>Ha p b
 | _ :: p,.scope b=>Ha p b
 | _ :: _,c=>c
def aQ (P : Program) (f : FuncId) (p : List Nat) : Code := match P.funcs[f]? with
 | some fn => match fn.body with
   | some c=>Ha p c
   | none=>.skip
 | none=>.skip
def eP (k:IntKind)(v:AV):Option Int:=match v with
 | .int k' n=>if k=k' then some n else none
 | _=>none
theorem cA {k:IntKind}{v:AV}{n:Int}(h:eP k v=some n):v=.int k n:=by
 unfold eP at h
 split at h
 ·split at h
  ·rename_i e; subst e; rw[Option.some.inj h]
  ·cases h
 ·cases h
def rO (v:AV):Option Bool:=match v with
 | .bool b=>some b
 | _=>none
theorem uN {v:AV}{b:Bool}(h:rO v=some b):v=.bool b:=by
 unfold rO at h
 split at h
 ·rw[Option.some.inj h]
 ·cases h
def iZ (v:AV):Option (List UInt8):=match v with
 | .str s=>some s
 | _=>none
theorem dY {v:AV}{s:List UInt8}(h:iZ v=some s):v=.str s:=by
 unfold iZ at h
 split at h
 ·rw[Option.some.inj h]
 ·cases h
def AQ (v:AV):Option Unit:=if v.one=true then some () else none
theorem rE {v:AV}{u:Unit}(h:AQ v=some u):v.cells=[v]:=by
 unfold AQ at h
 split at h
 ·rename_i e
  cases v <;> first | rfl | cases e
 ·cases h
theorem zA:([]:List (List AV))=[]:=rfl
theorem nH {a b:List AV}{l m:List (List AV)}(h:a=b)(t:l=m):a :: l=b :: m:=by rw[h,t]
theorem bF {b:Bool}(h:¬ b=true):b=false:=by cases b <;> simp_all
theorem gA {a b:Int}(h:a=b):(a == b)=true:=by simpa using h
theorem eW {a b:Int}(h:¬ a=b):(a == b)=false:=by simpa using h
theorem B7 {a b:Int}(h:¬ a=b):(a != b)=true:=by simpa using h
theorem vR {a b:Int}(h:a=b):(a != b)=false:=by simpa using h
theorem AY:∀{a b:List UInt8},kG a b=true↔a=b
 | [],[]=>by simp[kG]
 | [],_ :: _=>by simp[kG]
 | _ :: _,[]=>by simp[kG]
 | x :: a, y :: b => by
   simp only[kG,Bool.and_eq_true,Nat.beq_eq,List.cons.injEq,AY (a:=a) (b:=b)]
   constructor
   ·rintro⟨h,rfl⟩; exact⟨UInt8.toNat_inj.1 h,rfl⟩
   ·rintro⟨rfl,rfl⟩; exact⟨rfl,rfl⟩
theorem mK {a b:List UInt8}(h:a=b):kG a b=true:=AY.2 h
theorem kY {a b:List UInt8}(h:¬ a=b):kG a b=false:=by
 cases e:kG a b with
 | false=>rfl
 | true=>exact absurd (AY.1 e) h
theorem OY {a b:List UInt8}(h:¬ a=b):(!kG a b)=true:=by rw[kY h]; rfl
theorem Oe {a b:List UInt8}(h:a=b):(!kG a b)=false:=by rw[mK h]; rfl
theorem Mm {o:Option AV}{b:Bool}(h:o.bind rO=some b):o=some (.bool b):=by
 obtain⟨v,h1,h2⟩:=Option.bind_eq_some_iff.1 h
 rw[h1,uN h2]
theorem bD {p:Prop}[Decidable p]{α:Type}{a b x:α}{G:Prop}(t:p→a=x→G)(f:¬p→b=x→G):(if p then a else b)=x→G:=fun h=>N6 h t f
theorem aA {α β:Type}{o:Option α}{g:α→Option β}{x:β}{G:Prop}(t:∀ a,o=some a→g a=some x→G):o.bind g=some x→G:=fun h=>Ln h t
theorem wR (k:IntKind)(n:Int):AV.beq (.int k n) (.int k n)=true:=by simp[AV.beq]
theorem tR (s:List UInt8):AV.beq (.str s) (.str s)=true:=by simp[AV.beq,AY]
theorem Hf (b:Bool):AV.beq (.bool b) (.bool b)=true:=by simp[AV.beq]
def Al (s:List UInt8)(i:Int):Option Int:=match i with
 | .ofNat k=>(s[k]?).bind fun b=>some (b.toNat:Int)
 | .negSucc _=>none
theorem iL {P:Program}{t:TypeId}{s:List UInt8}{i v:Int}{k:IntKind}(ht:P.underlying t=some .string)(h:Al s i=some v):CJ P t (.str s) (.int k i)=some (.int .u8 v):=by
 unfold Al at h
 unfold CJ
 simp only[ht,Option.bind_some,intOf]
 split at h
 ·obtain⟨b,h1,h2⟩:=Option.bind_eq_some_iff.1 h
  simp only[h1,Option.bind_some,← Option.some.inj h2]
 ·cases h
def oC (a b:List UInt8):Option (List UInt8):=if a.length+b.length≤9223372036854775807 then some (a ++ b) else none
theorem jF {a b s:List UInt8}(h:oC a b=some s):A3 .add a b=some (.str s):=by
 unfold oC at h
 split at h
 ·rename_i e
  simp only[A3,Nat.ble_eq_true_of_le e,cond_true,Option.some.inj h]
 ·cases h
def Am (s:List UInt8)(lo hi:Int):Option (List UInt8):=match lo,hi with
 | .ofNat l,.ofNat h=>if l≤h∧h≤s.length then some ((s.take h).drop l) else none
 | _,_=>none
theorem Er {s r:List UInt8}{lo hi:Int}(h:Am s lo hi=some r):∃ l k:Nat,lo=l∧hi=k∧l≤k∧k≤s.length∧r=(s.take k).drop l:=by
 unfold Am at h
 split at h
 ·split at h
  ·rename_i e
   exact⟨_,_,rfl,rfl,e.1,e.2,(Option.some.inj h).symm⟩
  ·cases h
 ·cases h
theorem tQ {k:IntKind}{a n:Nat}(h:a≤n):within (.int k (a:Int)) n=some a:=by
 show cond (Nat.ble a n) (some a) none=_
 rw[Nat.ble_eq_true_of_le h]; rfl
theorem HG {P:Program}{t:TypeId}{s r:List UInt8}{lo hi:Int}{k k':IntKind}(ht:P.underlying t=some .string)(h:Am s lo hi=some r):rF P t (.str s) (some (.int k lo)) (some (.int k' hi)) none=some (.str r):=by
 obtain⟨l,m,rfl,rfl,h1,h2,rfl⟩:=Er h
 simp only[rF,ht,Option.bind_some,bounds,Ao,FO,Gn,tQ h2,tQ h1]
theorem H9 {P:Program}{t:TypeId}{s r:List UInt8}{lo:Int}{k:IntKind}(ht:P.underlying t=some .string)(h:Am s lo (s.length:Nat)=some r):rF P t (.str s) (some (.int k lo)) none none=some (.str r):=by
 obtain⟨l,m,rfl,e,h1,h2,rfl⟩:=Er h
 obtain rfl:s.length=m:=by exact_mod_cast e
 simp only[rF,ht,Option.bind_some,bounds,Ao,FO,Gn,tQ h1]
theorem LO {P:Program}{t:TypeId}{s r:List UInt8}{hi:Int}{k':IntKind}(ht:P.underlying t=some .string)(h:Am s 0 hi=some r):rF P t (.str s) none (some (.int k' hi)) none=some (.str r):=by
 obtain⟨l,m,e,rfl,h1,h2,rfl⟩:=Er h
 obtain rfl:0=l:=by exact_mod_cast e
 simp only[rF,ht,Option.bind_some,bounds,Ao,FO,Gn,tQ h2]
def strOf (st:St)(v:AV):Option (List UInt8):=(lenOf v).bind fun n=>(fM st n v 1).bind fun cs=>bytesOf cs
theorem Ea {st:St}{v:AV}{l:List UInt8}(h:strOf st v=some l):((lenOf v).bind fun n=>(fM st n v 1).bind fun cs=>(bytesOf cs).bind fun l=>some (AV.str l))=some (.str l):=by
 obtain⟨n,h1,h⟩:=Option.bind_eq_some_iff.1 h
 obtain⟨cs,h2,h3⟩:=Option.bind_eq_some_iff.1 h
 simp only[h1,h2,h3,Option.bind_some]
theorem fD {P:Program}{t e:TypeId}{v:AV}{n:Nat}(ht:P.underlying t=some (.slice e))(h:lenOf v=some n):gN P [v] (.call ⟨.builtin .len,#[.tmp 0],#[t]⟩)=some (.int .i64 (n:Int)):=by
 have h0:dA [v] (#[Operand.tmp 0]:Array Operand).toList=some [v]:=rfl
 cases v <;> first | (cases h; done) | (obtain rfl:=Option.some.inj h; simp only[gN,h0,Option.bind_some,List.getElem?_toArray,List.getElem?_cons_zero,ht] <;> rfl)
theorem cC {x v:AV}(h:aZ x=some v):aZ x=some x:=by
 unfold aZ at h ⊢
 split at h <;> first | rfl | cases h
theorem aP {o:Option St}{st:St}(h:o=some st):(o.bind fun st'=>some (AV.undef,st'))=some (AV.undef,st):=by rw[h]; rfl
def eK (o:Option ((Nat→AV)×hZ))(st:St):Option (AV×St):=o.bind fun x=>some (x.1 st.next,st.push x.2)
def qP (t:TypeId)(v:AV)(st:St):Option (AV×St):=if v.cells.all AV.one=true then some (.ref st.next 0,st.push (.cells t true v.cells)) else none
theorem xK {t:TypeId}{v x:AV}{st st':St}(h:qP t v st=some (x,st')):
 (Option.bind (cond (v.cells.all AV.one) (some ((fun id=>AV.ref id 0:Nat→AV),hZ.cells t true v.cells)) none) fun y=>some (y.1 st.next,st.push y.2))=some (x,st'):=by
 unfold qP at h
 split at h
 ·rename_i e; rw[e]; exact h
 ·cases h
def Pp (k:IntKind)(a b:Int):Int:=k.wrap ((BitVec.ofInt k.bits a ||| BitVec.ofInt k.bits b).toNat)
theorem jE {X:Option AV}{y v:AV}(h:X=some y)(hb:AV.beq y v=true):X=some v∧AV.beq v v=true:=by
 have e:=AV.Aj _ _ hb
 subst e
 exact⟨h,hb⟩
end Go.Ev
end
section
set_option linter.all false
namespace Go.Ev
theorem wrap64 {n:Int}(h1:-9223372036854775808≤n)(h2:n≤9223372036854775807):IntKind.wrap .i64 n=n:=by
 unfold IntKind.wrap
 simp only[IntKind.bits,IntKind.signed,Bool.true_and,decide_eq_true_eq,show((2:Int) ^ 64)=18446744073709551616 from rfl,show((2:Int) ^ (64 - 1))=9223372036854775808 from rfl]
 split <;> omega
theorem ME (s:List UInt8)(k:Nat):Al s (k:Int)=(s[k]?).map fun b=>(b.toNat:Int):=by
 show(match(Int.ofNat k:Int) with | .ofNat k=>(s[k]?).bind fun b=>some (b.toNat:Int) | .negSucc _=>none)=_
 simp only[Int.ofNat_eq_natCast]
 cases h:s[k]? <;> simp[h]
theorem tY {s:List UInt8}{k:Nat}(h:k<s.length):Al s (k:Int)=some ((s[k].toNat:Nat):Int):=by
 rw[ME,List.getElem?_eq_getElem h]; rfl
theorem xP {s:List UInt8}{a b:Nat}(h1:a≤b)(h2:b≤s.length):Am s (a:Int) (b:Int)=some ((s.take b).drop a):=by
 show(if a≤b∧b≤s.length then some ((s.take b).drop a) else none)=_
 rw[if_pos ⟨h1,h2⟩]
theorem iB {a b:List UInt8}(h:a.length+b.length≤9223372036854775807):oC a b=some (a ++ b):=by
 unfold oC; rw[if_pos h]
class yU (P:Program) (t:TypeId) (sz:outParam Nat):Prop where
 ok:∃ e bs z,P.underlying t=some (.slice e)∧size? P e=some sz∧bytes? P e=some bs∧uS P e=some z∧bs≤4096∧0<sz∧z.cells.length=sz∧z.cells.all AV.one=true
class pI (P:Program) (t:TypeId) (g:outParam Bool) (n:outParam Nat):Prop where
 agg:LI P t=some g
 size:size? P t=some n
def Sl (st:St)(sz:Nat)(x:AV)(cells:List AV):Prop:=
 (x=.aB∧cells=[])∨ ∃ id e len cap,x=.sl id e len sz cap cells∧cells.length=len * sz∧id<st.next∧(cap=some len∨cap=none∧st.aS.get id=some (.oE e))
def oV (st st':St)(but:Nat→Prop):Prop:=st.next≤st'.next∧ ∀ id,id<st.next→ ¬ but id→st'.aS.get id=st.aS.get id
theorem oV.trans {a b c:St}{p:Nat→Prop}(h:oV a b p)(k:oV b c p):oV a c p:=
 ⟨Nat.le_trans h.1 k.1,fun id hi hn=>(k.2 id (Nat.lt_of_lt_of_le hi h.1) hn).trans (h.2 id hi hn)⟩
theorem oV.push (st:St)(o:hZ)(p:Nat→Prop):oV st (st.push o) p:=
 ⟨Nat.le_succ _,fun id hi _=>by simp only[St.push,Tr.cH]; rw[if_neg (by omega)]⟩
def dO:AV→Nat→Prop
 | .sl id ..,i=>i=id
 | _,_=>False
theorem Sl.push {st:St}{sz:Nat}{x:AV}{cells:List AV}(h:Sl st sz x cells)(o:hZ):Sl (st.push o) sz x cells:=by
 rcases h with h | ⟨id,e,len,cap,rfl,h1,h2,h3⟩
 ·exact .inl h
 ·refine .inr ⟨id,e,len,cap,rfl,h1,Nat.lt_succ_of_lt h2,?_⟩
  rcases h3 with h3 | ⟨h3,h4⟩
  ·exact .inl h3
  ·exact .inr ⟨h3,by simp only[St.push,Tr.cH]; rw[if_neg (by omega)]; exact h4⟩
theorem Sl.keeps {st st':St}{sz:Nat}{x:AV}{cells:List AV}{p:Nat→Prop}(h:Sl st sz x cells)(k:oV st st' p)(hp:∀ id,dO x id→ ¬ p id):Sl st' sz x cells:=by
 rcases h with h | ⟨id,e,len,cap,rfl,h1,h2,h3⟩
 ·exact .inl h
 ·refine .inr ⟨id,e,len,cap,rfl,h1,Nat.lt_of_lt_of_le h2 k.1,?_⟩
  rcases h3 with h3 | ⟨h3,h4⟩
  ·exact .inl h3
  ·exact .inr ⟨h3,by rw[k.2 id h2 (hp id rfl)]; exact h4⟩
theorem Sl.nil (st:St)(sz:Nat):Sl st sz .aB []:=.inl ⟨rfl,rfl⟩
theorem iE {α:Type}{c:Bool}{x y:α}(h:c=true):cond c x y=x:=by rw[h]; rfl
theorem xU {α:Type}{c:Bool}{x y:α}(h:c=false):cond c x y=y:=by rw[h]; rfl
theorem tL {P:Program}{t:TypeId}{sz:Nat}[T:yU P t sz]{v:AV}(st:St)(hl:v.cells.length=sz)(h1:v.cells.all AV.one=true)(hs:sz≤16777216):
 eK (aU P false t 1 [(0,v)]) st=some (.sl st.next sz 1 sz (some 1) v.cells,st.push (.oE sz)):=by
 obtain⟨e,bs,z,t1,t2,t3,t4,t5,t6,t7,t8⟩:=T.ok
 have c1:Nat.ble (1 * sz) 16777216=true:=Nat.ble_eq_true_of_le (by omega)
 have c2:Nat.beq z.cells.length sz=true:=by rw[t7]; exact Nat.beq_refl sz
 have c3:Nat.beq sz 0=false:=by cases sz with
  | zero=>exact absurd t6 (Nat.lt_irrefl 0)
  | succ n=>rfl
 have c4:(!(Nat.ble (1 * sz) 16777216 && Nat.beq z.cells.length sz && !Nat.beq sz 0))=false:=by rw[c1,c2,c3]; rfl
 have c5:(Nat.beq sz sz && Nat.ble (0 * sz+sz) (dC z.cells 1).length)=true:=by
  rw[Nat.beq_refl,Bool.true_and]
  refine Nat.ble_eq_true_of_le ?_
  simp[dC,t7]
 have c6:dK (dC z.cells 1) (0 * sz) v.cells=v.cells:=by
  simp only[dK,dC,List.append_nil,Nat.zero_mul,List.take_zero,List.nil_append,Nat.zero_add]
  rw[List.drop_eq_nil_of_le (by rw[t7,hl]; exact Nat.le_refl _),List.append_nil]
 simp only[eK,aU,t1,t2,t4,Option.bind_some,xU c4,p8,hl,iE c5,c6,iE h1,fP]
theorem Bl {st:St}{sz:Nat}{x:AV}{cells:List AV}(h:Sl st sz x cells)(hz:0<sz):lenOf x=some (cells.length / sz):=by
 rcases h with⟨rfl,rfl⟩ | ⟨id,e,len,cap,rfl,h1,h2,h3⟩
 ·simp[lenOf]
 ·simp only[lenOf]; rw[h1,Nat.mul_div_cancel _ hz]
theorem NQ {P : Program} {t : TypeId} {sz : Nat} [T : yU P t sz] {st : St} {x : AV} {cells new : List AV} {j : Nat} {e' : Nat} {c' : Option Nat} (h : Sl st sz x cells) (hl : new.length = sz) (h1 : new.all AV.one = true) (hn : cells.length ≤ iT) :
 ∃ x' st',bW P false st #[t,t] x (.sl j e' 1 sz c' new)=some (x',st')∧Sl st' sz x' (cells ++ new)∧oV st st' (dO x)∧(∀ id,dO x' id→dO x id∨st.next≤id):=by
 obtain⟨e,bs,z,t1,t2,t3,t4,t5,t6,t7,t8⟩:=T.ok
 have q1:Nat.beq t t=true:=Nat.beq_refl t
 have q2:(Nat.ble 1 1 && Nat.beq sz sz)=true:=by rw[Nat.beq_refl]; rfl
 have q3:range? new 0 (1 * sz)=some new:=by
  unfold range?
  rw[iE (Nat.ble_eq_true_of_le (by omega)),List.drop_zero,List.take_of_length_le (by omega)]
 have c1:Nat.beq sz 0=false:=by cases sz with
  | zero=>exact absurd t6 (Nat.lt_irrefl 0)
  | succ n=>rfl
 have c2:Nat.ble 1 iT=true:=rfl
 have c3:Nat.ble bs 4096=true:=Nat.ble_eq_true_of_le t5
 have c4:Nat.beq z.cells.length sz=true:=by rw[t7]; exact Nat.beq_refl sz
 have c5:(!(new.all AV.one && Nat.ble 1 iT && Nat.ble bs 4096 && !Nat.beq sz 0 && Nat.beq z.cells.length sz))=false:=by rw[h1,c1,c2,c3,c4]; rfl
 have b0:Nat.beq 1 0=false:=rfl
 have base:∀(q:AV),bW P false st #[t,t] q (.sl j e' 1 sz c' new)=(match q with
  | .aB=>cond (Nat.beq 1 0) (some (.aB,st)) (some (st.JM (fP false e 1 sz none new)))
  | .sl id e len sz' cap cs =>
    cond (Nat.beq 1 0) (some (q,st))<|cond (!(Nat.ble len iT && Nat.beq sz sz')) none<|
    cond (cap.any fun c=>Nat.blt c (len+1)) (some (st.JM (fP false e (len+1) sz none (cs ++ new))))<|
    match st.aS.get id with
    | some (.oE h)=>cond (Nat.beq h e && !false) (some (.sl id (e+new.length) (len+1) sz cap (cs ++ new),st.put id (.oE (e+new.length)))) none
    | _=>none
  | q=>bW P false st #[t,t] q (.sl j e' 1 sz c' new)):=by
  intro q
  cases q <;> first | rfl | (simp only[bW,t1,t2,t3,t4,Option.bind_some,AW,lenOf,sT,iE q1,fM,iE q2,q3,xU c5]; try rfl)
 rcases h with⟨rfl,rfl⟩ | ⟨id,e0,len,cap,rfl,h2,h3,h4⟩
 ·refine⟨.sl st.next new.length 1 sz none new,st.push (.oE new.length),?_,.inr ⟨_,_,_,_,rfl,by rw[List.nil_append,hl,Nat.one_mul],Nat.lt_succ_self _,.inr ⟨rfl,by simp[St.push,Tr.cH]⟩⟩,oV.push st _ _,fun id hi=>.inr (by rw[show id=st.next from hi]; exact Nat.le_refl _)⟩
  rw[base]; rfl
 ·have hlen:len≤iT:=by
   have:len * 1≤len * sz:=Nat.mul_le_mul_left _ t6
   omega
  have d1:(!(Nat.ble len iT && Nat.beq sz sz))=false:=by rw[Nat.ble_eq_true_of_le hlen,Nat.beq_refl]; rfl
  rcases h4 with rfl | ⟨rfl,h4⟩
  ·have d2:Option.any (fun c=>Nat.blt c (len+1)) (some len)=true:=by
    show Nat.ble (len+1) (len+1)=true
    exact Nat.ble_eq_true_of_le (Nat.le_refl _)
   refine⟨.sl st.next (cells ++ new).length (len+1) sz none (cells ++ new),st.push (.oE (cells ++ new).length),?_,.inr ⟨_,_,_,_,rfl,by rw[List.length_append,h2,hl,Nat.succ_mul],Nat.lt_succ_self _,.inr ⟨rfl,by simp[St.push,Tr.cH]⟩⟩,oV.push st _ _,fun id hi=>.inr (by rw[show id=st.next from hi]; exact Nat.le_refl _)⟩
   rw[base]
   simp only[b0,cond_false,xU d1,iE d2]
   rfl
  ·have d3:(Nat.beq e0 e0 && !false)=true:=by rw[Nat.beq_refl]; rfl
   refine⟨.sl id (e0+new.length) (len+1) sz none (cells ++ new),st.put id (.oE (e0+new.length)),?_,.inr ⟨_,_,_,_,rfl,by rw[List.length_append,h2,hl,Nat.succ_mul],h3,.inr ⟨rfl,by simp[St.put,Tr.cH]⟩⟩,⟨Nat.le_refl _,fun i hi hn=>?_⟩,fun i hi=>.inl hi⟩
   ·rw[base]
    simp only[b0,cond_false,xU d1,Option.any_none,h4,iE d3]
   ·simp only[St.put,Tr.cH]
    exact if_neg fun e:i=id=>hn e
theorem Nv {P:Program}{t:TypeId}{sz:Nat}[T:yU P t sz]{st:St}{x v:AV}{cells:List AV}{α:Type}(k:AV×St→Option α)(h:Sl st sz x cells)(hl:v.cells.length=sz)(h1:v.cells.all AV.one=true)(hn:cells.length≤iT)(hs:sz≤16777216):
 ∃ x' st',((eK (aU P false t 1 [(0,v)]) st).bind fun p=>(bW P false p.2 #[t,t] x p.1).bind k)=k (x',st')∧Sl st' sz x' (cells ++ v.cells)∧oV st st' (dO x)∧(∀ id,dO x' id→dO x id∨st.next≤id):=by
 obtain⟨x',st',k1,k2,k3,k4⟩:=NQ (P:=P) (t:=t) (j:=st.next) (e':=sz) (c':=some 1) (h.push (.oE sz)) hl h1 hn
 refine⟨x',st',?_,k2,(oV.push st (.oE sz) (dO x)).trans k3,fun id hi=>(k4 id hi).imp (fun h=>h) fun h=>?_⟩
 ·rw[tL st hl h1 hs,Option.bind_some,k1,Option.bind_some]
 ·simp only[St.push] at h; omega
def Row (sz:Nat)(x:AV)(cells:List AV):Prop:=(x=.aB∧cells=[])∨ ∃ id e len cap,x=.sl id e len sz cap cells∧cells.length=len * sz
theorem Sl.row {st:St}{sz:Nat}{x:AV}{cells:List AV}(h:Sl st sz x cells):Row sz x cells:=by
 rcases h with h | ⟨id,e,len,cap,h1,h2,_,_⟩
 ·exact .inl h
 ·exact .inr ⟨id,e,len,cap,h1,h2⟩
theorem s9 {sz:Nat}{x:AV}{cells:List AV}(h:Row sz x cells)(hz:0<sz):lenOf x=some (cells.length / sz):=by
 rcases h with⟨rfl,rfl⟩ | ⟨id,e,len,cap,rfl,h1⟩
 ·simp[lenOf]
 ·simp only[lenOf]; rw[h1,Nat.mul_div_cancel _ hz]
theorem sO {P:Program}{t:TypeId}{sz:Nat}[T:yU P t sz]{x:AV}{cells:List AV}{k:IntKind}{i:Nat}(h:Row sz x cells)(hi:i * sz<cells.length):cV P t x (.int k (i:Int))=some (.rA (cells.drop (i * sz))):=by
 obtain⟨e,bs,z,t1,t2,t3,t4,t5,t6,t7,t8⟩:=T.ok
 rcases h with⟨rfl,rfl⟩ | ⟨id,e0,len,cap,rfl,h2⟩
 ·simp at hi
 ·have hlt:i<len:=by
   rw[h2] at hi
   exact Nat.lt_of_mul_lt_mul_right hi
  have c1:(Nat.blt i len && Nat.beq sz sz)=true:=by
   rw[Nat.beq_refl,Bool.and_true]
   exact Nat.ble_eq_true_of_le hlt
  show(P.underlying t).bind _=_
  rw[t1]
  show(size? P e).bind _=_
  rw[t2]
  show cond _ _ _=_
  rw[iE c1]
  show cond _ _ _=_
  rw[iE (Nat.ble_eq_true_of_le (Nat.le_of_lt hi))]
theorem Mo {P:Program}{t:TypeId}{sz:Nat}[T:yU P t sz]{st:St}{x:AV}{cells:List AV}{k:IntKind}{i:Nat}(h:Sl st sz x cells)(hi:i * sz<cells.length):cV P t x (.int k (i:Int))=some (.rA (cells.drop (i * sz))):=sO h.row hi
theorem Dl {P:Program}{t:TypeId}[T:pI P t false 1]{st:St}{c:AV}{cs:List AV}:loadAt P st t (.rA (c :: cs))=some c:=by
 simp only[loadAt,T.agg,T.size,Option.bind_some,cond_false,tH,range?]
 rw[iE (Nat.ble_eq_true_of_le (by simp))]
 rfl
theorem EZ {P:Program}{t:TypeId}{n:Nat}[T:pI P t true n]{st:St}{cs:List AV}(h:n≤cs.length):loadAt P st t (.rA cs)=some (.agg (cs.take n)):=by
 simp only[loadAt,T.agg,T.size,Option.bind_some,cond_true,tH,range?]
 rw[iE (Nat.ble_eq_true_of_le (by omega))]
 rfl
theorem wG (st:St)(id:Nat)(o:hZ):(st.put id o).aS.get id=some o:=by simp[St.put,Tr.cH]
theorem yQ {st:St}{id j:Nat}(o:hZ)(h:j≠id):(st.put id o).aS.get j=st.aS.get j:=by simp[St.put,Tr.cH,h]
theorem xR (st:St)(o:hZ):(st.push o).aS.get st.next=some o:=by simp[St.push,Tr.cH]
theorem wJ {st:St}{j:Nat}(o:hZ)(h:j≠st.next):(st.push o).aS.get j=st.aS.get j:=by simp[St.push,Tr.cH,h]
section
variable {P:Program}{T:TypeId}{st:St}{id off n:Nat}{t:TypeId}{u:Bool}{cs new:List AV}{c v:AV}
theorem KJ [L:pI P T false 1](h:st.aS.get id=some (.cells t u cs))(hc:cs[off]? =some c):loadAt P st T (.ref id off)=some c:=by
 have hl:off<cs.length:=(List.getElem?_eq_some_iff.1 hc).1
 simp only[loadAt,L.agg,L.size,Option.bind_some,cond_false,tH,h,range?]
 rw[iE (Nat.ble_eq_true_of_le (by omega)),List.drop_eq_getElem_cons hl,Option.bind_some]
 have:cs[off]=c:=(List.getElem?_eq_some_iff.1 hc).2
 simp[shaped,this]
theorem v8 [L:pI P T true n](h:st.aS.get id=some (.cells t u cs))(hn:cs.length=n):loadAt P st T (.ref id 0)=some (.agg cs):=by
 simp only[loadAt,L.agg,L.size,Option.bind_some,cond_true,tH,h,range?]
 rw[iE (Nat.ble_eq_true_of_le (by omega)),List.drop_zero,List.take_of_length_le (by omega)]
 rfl
theorem JE [L:pI P T false 1](h:st.aS.get id=some (.cells t u cs))(hl:off<cs.length)(hv:v.one=true)(hc:v.cells=[v]):storeAt P st T (.ref id off) v=some (st.put id (.cells t u (cs.set off v))):=by
 simp only[storeAt,L.size,Option.bind_some,hc]
 have c1:(Nat.beq [v].length 1 && [v].all AV.one)=true:=by simp[hv]
 rw[iE c1]
 simp only[iJ,h]
 rw[iE (Nat.ble_eq_true_of_le (by simp; omega))]
 simp only[dK,List.length_cons,List.length_nil]
 rw[List.set_eq_take_append_cons_drop,if_pos hl]
 simp
theorem A0 [L:pI P T true n](h:st.aS.get id=some (.cells t u cs))(hn:cs.length=n)(hm:new.length=n)(ho:new.all AV.one=true):storeAt P st T (.ref id 0) (.agg new)=some (st.put id (.cells t u new)):=by
 simp only[storeAt,L.size,Option.bind_some,AV.cells]
 have c1:(Nat.beq new.length n && new.all AV.one)=true:=by rw[hm,ho,Nat.beq_refl]; rfl
 rw[iE c1]
 simp only[iJ,h]
 rw[iE (Nat.ble_eq_true_of_le (by omega))]
 simp only[dK,List.take_zero,List.nil_append,Nat.zero_add]
 rw[List.drop_eq_nil_of_le (by omega),List.append_nil]
end
def Sr (st:St)(sz:Nat)(x:AV)(room:Nat)(cells:List AV):Prop:=
 ∃ id len t u cs,x=.nJ id 0 len sz (some room)∧st.aS.get id=some (.cells t u cs)∧cs.length=room * sz∧len≤room∧cells=cs.take (len * sz)∧id<st.next
theorem Sr.push {st:St}{sz:Nat}{x:AV}{room:Nat}{cells:List AV}(h:Sr st sz x room cells)(o:hZ):Sr (st.push o) sz x room cells:=by
 obtain⟨id,len,t,u,cs,rfl,h1,h2,h3,rfl,h4⟩:=h
 exact⟨id,len,t,u,cs,rfl,by simp only[St.push,Tr.cH]; rw[if_neg (by omega)]; exact h1,h2,h3,rfl,Nat.lt_succ_of_lt h4⟩
theorem EM (z:List AV):∀ n,(dC z n).length=n * z.length
 | 0=>by simp[dC]
 | n+1=>by simp[dC,EM z n,Nat.succ_mul,Nat.add_comm]
theorem NW {P:Program}{t:TypeId}{sz:Nat}[T:yU P t sz]{k k':IntKind}{c:Nat}(st:St)(hc:c≤iT):
 ∃ x st',eK (sR P t (.int k 0) (.int k' (c:Int))) st=some (x,st')∧Sr st' sz x c []∧oV st st' (fun _=>False):=by
 obtain⟨e,bs,z,t1,t2,t3,t4,t5,t6,t7,t8⟩:=T.ok
 have c3:Nat.beq sz 0=false:=by cases sz with
  | zero=>exact absurd t6 (Nat.lt_irrefl 0)
  | succ n=>rfl
 have c1:(Nat.ble 0 c && Nat.ble c iT && Nat.ble bs 4096 && Nat.beq z.cells.length sz && !Nat.beq sz 0 && z.cells.all AV.one)=true:=by
  rw[Nat.ble_eq_true_of_le (Nat.zero_le _),Nat.ble_eq_true_of_le hc,Nat.ble_eq_true_of_le t5,t7,Nat.beq_refl,c3,t8]; rfl
 have e1:sR P t (.int k 0) (.int k' (c:Int))=some (fun id=>.nJ id 0 0 sz (some c),.cells e true (dC z.cells c)):=by
  show(P.underlying t).bind _=_
  rw[t1]
  show(size? P e).bind _=_
  rw[t2]
  show(bytes? P e).bind _=_
  rw[t3]
  show(uS P e).bind _=_
  rw[t4]
  show cond _ _ _=_
  rw[iE c1]
 refine⟨.nJ st.next 0 0 sz (some c),st.push (.cells e true (dC z.cells c)),?_,⟨_,_,_,_,_,rfl,by simp[St.push,Tr.cH]; exact⟨rfl,rfl,rfl⟩,by rw[EM,t7],Nat.zero_le _,by simp,Nat.lt_succ_self _⟩,oV.push st _ _⟩
 simp only[eK,e1,Option.bind_some]
theorem OI {P:Program}{t:TypeId}{sz:Nat}[T:yU P t sz]{st:St}{x v:AV}{room:Nat}{cells:List AV}{α:Type}(k:AV×St→Option α)(h:Sr st sz x room cells)(hl:v.cells.length=sz)(h1:v.cells.all AV.one=true)(hn:cells.length<room * sz)(hr:room≤iT)(hs:sz≤16777216):
 ∃ x' st',((eK (aU P false t 1 [(0,v)]) st).bind fun p=>(bW P false p.2 #[t,t] x p.1).bind k)=k (x',st')∧Sr st' sz x' room (cells ++ v.cells):=by
 rw[tL st hl h1 hs,Option.bind_some]
 have h':=h.push (.oE sz)
 generalize hst:st.push (.oE sz)=st1 at h'
 obtain⟨id,len,tt,u,cs,rfl,g1,g2,g3,rfl,g4⟩:=h'
 obtain⟨e,bs,z,t1,t2,t3,t4,t5,t6,t7,t8⟩:=T.ok
 have hlt:len<room:=by
  rw[List.length_take,g2] at hn
  rcases Nat.lt_or_ge len room with h | h
  ·exact h
  ·have:room * sz≤len * sz:=Nat.mul_le_mul_right _ h
   omega
 have hle:(len+1) * sz≤room * sz:=Nat.mul_le_mul_right _ hlt
 rw[Nat.succ_mul] at hle
 have q1:Nat.beq t t=true:=Nat.beq_refl t
 have q2:(Nat.ble 1 1 && Nat.beq sz sz)=true:=by rw[Nat.beq_refl]; rfl
 have q3:range? v.cells 0 (1 * sz)=some v.cells:=by
  unfold range?
  rw[iE (Nat.ble_eq_true_of_le (by omega)),List.drop_zero,List.take_of_length_le (by omega)]
 have c1:Nat.beq sz 0=false:=by cases sz with
  | zero=>exact absurd t6 (Nat.lt_irrefl 0)
  | succ n=>rfl
 have c5:(!(v.cells.all AV.one && Nat.ble 1 iT && Nat.ble bs 4096 && !Nat.beq sz 0 && Nat.beq z.cells.length sz))=false:=by
  rw[h1,c1,Nat.ble_eq_true_of_le t5,t7,Nat.beq_refl]; rfl
 have d1:(!(Nat.ble len iT && Nat.beq sz sz))=false:=by rw[Nat.ble_eq_true_of_le (by omega),Nat.beq_refl]; rfl
 have d2:Nat.ble (len+1) room=true:=Nat.ble_eq_true_of_le hlt
 have d3:Nat.ble (0+len * sz+v.cells.length) cs.length=true:=Nat.ble_eq_true_of_le (by rw[hl,g2]; omega)
 refine⟨.nJ id 0 (len+1) sz (some room),st1.put id (.cells tt u (dK cs (0+len * sz) v.cells)),?_,⟨_,_,_,_,_,rfl,by simp[St.put,Tr.cH]; exact⟨rfl,rfl,rfl⟩,?_,hlt,?_,by simpa[St.put] using g4⟩⟩
 ·have e1:bW P false st1 #[t,t] (.nJ id 0 len sz (some room)) (.sl st.next sz 1 sz (some 1) v.cells)=some (.nJ id 0 (len+1) sz (some room),st1.put id (.cells tt u (dK cs (0+len * sz) v.cells))):=by
   simp only[bW,t1,t2,t3,t4,Option.bind_some,AW,lenOf,sT,iE q1,fM,iE q2,q3,xU c5,show Nat.beq 1 0=false from rfl,cond_false,xU d1,iE d2,iJ,g1,iE d3]
  show(bW P false st1 #[t,t] (.nJ id 0 len sz (some room)) (.sl st.next sz 1 sz (some 1) v.cells)).bind k=_
  rw[e1,Option.bind_some]
 ·simp only[dK,List.length_append,List.length_take,List.length_drop,g2,hl]
  omega
 ·simp only[dK,Nat.zero_add]
  have e:(len+1) * sz=(cs.take (len * sz) ++ v.cells).length:=by
   rw[List.length_append,List.length_take,g2,hl,Nat.succ_mul]; omega
  rw[e,List.take_left]
theorem HD {st:St}{x:AV}{room:Nat}{l:List UInt8}(h:Sr st 1 x room (l.map fun b=>.int .u8 (b.toNat:Int)))(hb:bytesOf (l.map fun b=>.int .u8 (b.toNat:Int))=some l):strOf st x=some l:=by
 obtain⟨id,len,t,u,cs,rfl,h1,h2,h3,h4,h5⟩:=h
 show(fM st len (.nJ id 0 len 1 (some room)) 1).bind _=_
 have c1:(Nat.ble len len && Nat.beq 1 1)=true:=by rw[Nat.ble_eq_true_of_le (Nat.le_refl _)]; rfl
 simp only[fM,h1,iE c1,range?]
 rw[iE (Nat.ble_eq_true_of_le (by omega)),List.drop_zero,← h4]
 exact hb
def mR (l:List UInt8):List AV:=l.map fun b=>.int .u8 (b.toNat:Int)
theorem sE:∀ l:List UInt8,bytesOf (mR l)=some l
 | []=>rfl
 | b :: l => by
   show(bytesOf (mR l)).bind _=_
   rw[sE l]
   simp
theorem He {st:St}{x:AV}{l:List UInt8}(h:Sl st 1 x (mR l)):strOf st x=some l:=by
 have hl:(mR l).length=l.length:=by simp[mR]
 rcases h with⟨rfl,h⟩ | ⟨id,e0,len,cap,rfl,h2,h3,h4⟩
 ·cases l with
  | nil=>rfl
  | cons a l=>cases h
 ·have e:len=l.length:=by omega
  subst e
  show(fM st l.length (.sl id e0 l.length 1 cap (mR l)) 1).bind _=_
  have c1:(Nat.ble l.length l.length && Nat.beq 1 1)=true:=by rw[Nat.ble_eq_true_of_le (Nat.le_refl _)]; rfl
  simp only[fM,iE c1,range?]
  rw[iE (Nat.ble_eq_true_of_le (by omega)),List.drop_zero,List.take_of_length_le (by omega)]
  exact sE l
end Go.Ev
end
section
set_option linter.all false
namespace Go.Ev
open Go.RowKit (Below)
section
variable {C:zV}{ext:Ext}{rounds:Nat}
theorem Kv {W0:World}(hb:Below W0.heap.size W0 W0):Inv W0 ⟨fun _=>none,fun _=>none⟩ St.empty W0:={
 below:=hb
 blt:=fun _ _ _ _ h=>by cases h
 zT:=fun _ _ _ _ _ _ _ h=>by cases h
 u5:=fun _ _ _ _ h=>by cases h
 A8:=fun _ _ _ _ h=>by cases h
 pK:=fun _ _ _ _ _ h=>by cases h
 n6:=fun _ _ _ _ _ _ _ h=>by cases h
 oR:=fun _ _ _ _ _ h=>by cases h
 fresh:=fun id _=>by simp[St.empty,Tr.get]
 old:=fun _ _ _ h=>by cases h }
theorem It {W0:World}(hm:C.P.follows .mixedOrders=true)(hE:oX C.P ext)(hM:rQ C.P C.Bi){n:Nat}{f:FuncId}{args:List AV}{vs:Array Value}{k:AV→Bool}(hb:Below W0.heap.size W0 W0)
 (ha:∀ G st w,aT G st w args vs.toList) (h1:aR C ext rounds n false f args St.empty (fun _ v _=>k v)=true) (hx:pR C.P f=true):
 Calls C.P f vs W0 fun e w'=>Below W0.heap.size W0 w'∧ ∃ u v G st,e=.returned u∧k v=true∧aW G st w' v u:=by
 rcases(zB (W0:=W0) hm hE hM rounds n).1 f args St.empty _ h1 _ W0 vs (Kv hb) (ha _ _ _) with⟨u,w',v,st',G',c1,_⟩ | ⟨_,c2,_⟩
 ·exact(sF hx c1).elim
 ·refine Calls.mono (callsIn_wide.1 c2) fun e w' he=>?_
  obtain⟨u,v,st',G',rfl,hk,hg,hr⟩:=he
  simp only[Bool.or_self] at hk
  exact⟨hg.inv.below,u,v,G',st',rfl,hk,hr⟩
open Classical in
theorem FG {W0:World}(hm:C.P.follows .mixedOrders=true)(hE:oX C.P ext)(hM:rQ C.P C.Bi){n:Nat}{f:FuncId}{args:List AV}{v:AV}{st':St}{vs:Array Value}(hb:Below W0.heap.size W0 W0)
 (ha:∀ G st w,aT G st w args vs.toList) (h:b7 (aR C ext rounds n) false f args St.empty v st') (hx:pR C.P f=true):
 Calls C.P f vs W0 fun e w'=>Below W0.heap.size W0 w'∧ ∃ u G st,e=.returned u∧aW G st w' v u:=by
 obtain⟨p,h⟩:=h
 have h1:aR C ext rounds n false f args St.empty (fun _ v' _=>decide (v'=v))=true:=by rw[h]; exact decide_eq_true rfl
 refine Calls.mono (It hm hE hM hb ha h1 hx) fun e w' ⟨hB,u,v',G,st,he,hk,hr⟩=>?_
 have:v'=v:=of_decide_eq_true hk
 subst this
 exact⟨hB,u,G,st,he,hr⟩
def wL (spec:FuncId→List AV→Option AV)(old:Ext):Ext:=fun f args=>match spec f args with
 | some v=>some v
 | none=>old f args
theorem Ir {old:Ext}{spec:FuncId→List AV→Option AV}(hm:C.P.follows .mixedOrders=true)(hE:oX C.P ext)(hM:rQ C.P C.Bi)(ho:oX C.P old)
 (h:∀ f args v,spec f args=some v→AV.tX args=true∧v.closed=true∧pR C.P f=true∧((C.P.funcs[f]?).any fun fn=>fn.name == "runtime.NumGoroutine")=false∧ ∃ R n st',b7 (aR C ext R n) false f args St.empty v st'):
 oX C.P (wL spec old):=by
 intro f args v hx G st w vs hr
 unfold wL at hx
 split at hx
 ·rename_i v' hv
  injection hx with hx
  subst hx
  obtain⟨c1,c2,c3,c4,R,n,st',hc⟩:=h f args v' hv
  refine .inr ⟨?_,Calls.mono (FG (W0:=w) hm hE hM (Below.refl _ _) (fun G' st' w'=>aT.closed c1 hr) hc c3) fun e w' ⟨hB,u,G2,st2,he,hrep⟩=>⟨u,he,aW.closed c2 hrep,hB⟩⟩
  unfold pR at c3
  split at c3
  ·rename_i fn hfn
   have hfn':C.P.funcs[f]? =some fn:=hfn
   rw[hfn'] at c4
   have h0:¬ fn.name= "runtime.NumGoroutine" :=by simpa using c4
   have h1:¬ fn.body=none:=by intro h; rw[h] at c3; cases c3
   simp[callFunc,hfn',h0,h1]
  ·cases c3
 ·exact ho f args v hx G st w vs hr
def sG:List (Nat×(List AV→Option AV))→FuncId→List AV→Option AV
 | [],_,_=>none
 | (g,F) :: l,f,args=>cond (Nat.beq f g) (F args) (sG l f args)
theorem Ft:∀{l:List (Nat×(List AV→Option AV))} {f:FuncId} {args:List AV} {v:AV},sG l f args=some v→ ∃ F,(f,F) ∈ l∧F args=some v
 | [],_,_,_,h=>by cases h
 | (g, F) :: l, f, args, v, h => by
   simp only[sG] at h
   cases hc:Nat.beq f g with
   | true =>
     rw[hc] at h
     obtain rfl:=Nat.eq_of_beq_eq_true hc
     exact⟨F,List.mem_cons_self,h⟩
   | false =>
     rw[hc] at h
     obtain⟨F',h1,h2⟩:=Ft h
     exact⟨F',List.mem_cons_of_mem _ h1,h2⟩
def nN (C:zV)(ext:Ext)(x:Nat×(List AV→Option AV)):Prop:=∀ args v,x.2 args=some v→AV.tX args=true∧v.closed=true∧ ∃ R n st',b7 (aR C ext R n) false x.1 args St.empty v st'
inductive qE (C:zV)(ext:Ext):List (Nat×(List AV→Option AV))→Prop where
 | nil:qE C ext []
 | cons {x:Nat×(List AV→Option AV)} {l:List (Nat×(List AV→Option AV))} (h:nN C ext x) (t:qE C ext l):qE C ext (x :: l)
theorem qE.mem {l:List (Nat×(List AV→Option AV))}(h:qE C ext l):∀ x ∈ l,nN C ext x:=by
 induction h with
 | nil=>intro x hx; cases hx
 | cons h t ih =>
   intro x hx
   rcases List.mem_cons.1 hx with rfl | hx
   ·exact h
   ·exact ih x hx
def LJ (P:Program)(f:Nat):Bool:=pR P f && !((P.funcs[f]?).any fun fn=>fn.name == "runtime.NumGoroutine")
theorem Dx {old:Ext}{l:List (Nat×(List AV→Option AV))}(hm:C.P.follows .mixedOrders=true)(hE:oX C.P ext)(hM:rQ C.P C.Bi)(ho:oX C.P old)
 (hb:(l.map (·.1)).all (LJ C.P)=true) (h:qE C ext l):oX C.P (wL (sG l) old):=by
 refine Ir hm hE hM ho fun f args v hv=>?_
 obtain⟨F,h1,h2⟩:=Ft hv
 obtain⟨c1,c2,R,n,st',c3⟩:=h.mem _ h1 args v h2
 have hb:=List.all_eq_true.1 hb f (List.mem_map.2 ⟨_,h1,rfl⟩)
 simp only[LJ,Bool.and_eq_true,Bool.not_eq_true'] at hb
 exact⟨c1,c2,hb.1,hb.2,R,n,st',c3⟩
theorem mL {spec:FuncId→List AV→Option AV}{old:Ext}{f:FuncId}{args:List AV}{v:AV}(h:spec f args=some v):wL spec old f args=some v:=by
 unfold wL; rw[h]
end
end Go.Ev
end
section
set_option linter.all false
namespace Go.Ev
open Go.RowKit (Below)
open Go.Shelf (Ren)
open Go.Proofs (LaysC.n172 LaysC.n174 enters_of)
def rB (s:List UInt8):Option Int:=match Go.Lib.parseIntB 64 s with
 | .ok v=>cond (Nat.ble s.length iT) (some v) none
 | _=>none
def Eu (g:FuncId)(old:Ext):Ext:=fun f args=>cond (Nat.beq f g) (match args with
 | [.str s,.int .i64 10,.int .i64 64]=>(rB s).map fun n=>.tuple [.int .i64 n,.tV]
 | _=>none) (old f args)
def zO:AV→Bool
 | .iface _ _=>true
 | .tV=>true
 | _=>false
theorem Ku {a:AV}(h:zO a=true):a.one=true:=by
 cases a <;> first | rfl | exact absurd h (by decide) | (revert h; intro h; exact Bool.noConfusion h)
def I6 (tE gS gR:Nat)(s:List UInt8)(st:St):Option (Int×AV):=cond (Nat.ble s.length iT) (match Go.Lib.atoiAll s with
 | .ok v=>some (v,.tV)
 | .range=>(st.old gR 0).bind fun a=>cond (zO a) (some (Go.Lib.atoiSat s,.iface tE .any)) none
 | _=>(st.old gS 0).bind fun a=>cond (zO a) (some (0,.iface tE .any)) none) none
def Bh (g tE gS gR:Nat)(old:FuncId→List AV→St→Option (AV×St)):FuncId→List AV→St→Option (AV×St):=fun f args st=>cond (Nat.beq f g) (match args with
 | [.str s]=>(I6 tE gS gR s st).map fun r=>(.tuple [.int .i64 r.1,r.2],st)
 | _=>none) (old f args st)
section
variable {W0:World}{G:Gh}{st:St}{w:World}{P:Program}
theorem Na {a:AV}{v:Value}(h:aW G st w a v)(he:zO a=true):v=.nilIface∨ ∃ te pe,v=.iface te pe:=by
 cases a <;> first | (cases he; done) | skip
 ·simp only[aW] at h
  obtain⟨u,rfl,_⟩:=h
  exact .inr ⟨_,_,rfl⟩
 ·simp only[aW] at h
  exact .inl h
theorem NB {vs:Array Value}{s:List UInt8}(h:aT G st w [.str s] vs.toList):vs= #[.string ⟨s.toArray⟩]:=by
 obtain⟨v1,l1,e1,r1,h⟩:=h.cons_inv
 have e2:=h.gV
 subst e2
 simp only[aW] at r1
 subst r1
 apply Array.ext'
 simpa using e1
theorem Hm {ρ:Ren}{old:Ext}(ho:oX P old)(L:LaysC.n174 P ρ):oX P (Eu (ρ.f 174) old):=by
 intro f args v hx G st w vs hr
 unfold Eu at hx
 cases hfg:Nat.beq f (ρ.f 174) with
 | false=>rw[hfg] at hx; exact ho f args v hx G st w vs hr
 | true =>
   rw[hfg] at hx
   have:=Nat.eq_of_beq_eq_true hfg
   subst this
   simp only[cond_true] at hx
   split at hx
   rotate_left
   ·cases hx
   rename_i s
   obtain⟨n,h1,rfl⟩:=Option.map_eq_some_iff.1 hx
   unfold rB at h1
   split at h1
   rotate_left
   ·cases h1
   rename_i v hv
   obtain⟨h2,h1⟩:=bC h1
   injection h1 with h1
   subst h1
   have h2:=Nat.le_of_ble_eq_true h2
   have hm:iT=1073741824:=rfl
   obtain⟨v1,l1,e1,r1,hr⟩:=hr.cons_inv
   obtain⟨v2,l2,e2,r2,hr⟩:=hr.cons_inv
   obtain⟨v3,l3,e3,r3,hr⟩:=hr.cons_inv
   have e4:=hr.gV
   subst e4; subst e3; subst e2
   simp only[aW] at r1 r2 r3
   subst r1; subst r2; subst r3
   have:vs= #[.string ⟨s.toArray⟩,.int .i64 10,.int .i64 64]:=by apply Array.ext'; simpa using e1
   subst this
   refine .inr ⟨Go.Proofs.enters_of L.f174 (by kernel_rfl) rfl _ _,Calls.mono (Go.Proofs.Any.strconv_ParseInt_10_at64_ok L ⟨s.toArray⟩ (by show s.toArray.size≤_; simp; omega) v (by simpa using hv) w) fun e w' he=>?_⟩
   obtain⟨rfl,hw⟩:=he
   refine⟨_,rfl,?_,?_⟩
   ·simp only[aW]
    exact⟨_,rfl,aT.cons (by simp only[aW]) (aT.cons (by simp only[aW]) aT.nil)⟩
   ·rcases hw with rfl | ⟨t,rfl⟩
    ·exact Below.refl _ _
    ·exact Go.Lib.bytesWorld_below _ _ _
theorem HM {ρ:Ren}{old:FuncId→List AV→St→Option (AV×St)}(ho:rQ P old)(L:LaysC.n172 P ρ):rQ P (Bh (ρ.f 172) (ρ.t 168) (ρ.g 15) (ρ.g 16) old):=by
 intro f args st v st' hx W0 G w vs I hr
 unfold Bh at hx
 cases hfg:Nat.beq f (ρ.f 172) with
 | false=>rw[hfg] at hx; exact ho f args st v st' hx W0 G w vs I hr
 | true =>
   rw[hfg] at hx
   have:=Nat.eq_of_beq_eq_true hfg
   subst this
   simp only[cond_true] at hx
   split at hx
   rotate_left
   ·cases hx
   rename_i s
   obtain⟨⟨n,a⟩,h1,hx⟩:=Option.map_eq_some_iff.1 hx
   injection hx with e1 e2
   subst e1; subst e2
   have:=NB hr
   subst this
   unfold I6 at h1
   obtain⟨h2,h1⟩:=bC h1
   have h2:=Nat.le_of_ble_eq_true h2
   have hm:iT=1073741824:=rfl
   have hsz:(⟨s.toArray⟩:ByteArray).size=s.length:=by show s.toArray.size=_; simp
   have fin:∀{w':World} {u:Value} {n:Int} {a:AV},Below w.heap.size w w'→aW G st w' a u→ ∃ u' G',Ending.returned (.tuple #[.int .i64 n,u])=.returned u'∧nK W0 G st w G' st w'∧aW G' st w' (.tuple [.int .i64 n,a]) u':=fun B hu=>
    ⟨_,G,rfl,BL I B,by simp only[aW]; exact⟨_,rfl,aT.cons (by simp only[aW]) (aT.cons hu aT.nil)⟩⟩
   have told:∀{g:Nat} {a:AV},st.old g 0=some a→zO a=true→ ∃ ev,w.cell? ⟨g,0,none⟩=some ev∧(ev=.nilIface∨ ∃ te pe,ev=.iface te pe):=fun hg ha=>by
    obtain⟨hb,hq,_⟩:=I.old _ _ _ hg
    obtain⟨ev,hv,hrep⟩:=hq (Ku ha)
    exact⟨ev,by rw[I.below.cell (p:=⟨_,0,none⟩) hb]; exact hv,Na (hrep G st w) ha⟩
   refine .inr ⟨Go.Proofs.enters_of L.f172 (by kernel_rfl) rfl _ _,?_⟩
   cases hv:Go.Lib.atoiAll s <;> rw[hv] at h1 <;> dsimp only at h1
   ·rename_i v
    injection h1 with h1
    injection h1 with e1 e2
    subst e1; subst e2
    refine Calls.mono (Go.Proofs.Any.strconv_Atoi_ok L ⟨s.toArray⟩ (by rw[hsz]; omega) v (by simpa using hv) w) fun e w' he=>?_
    obtain⟨rfl,hw⟩:=he
    refine fin ?_ (by simp only[aW])
    rcases hw with rfl | ⟨t,rfl⟩
    ·exact Below.refl _ _
    ·exact Go.Lib.bytesWorld_below _ _ _
   ·simp only[Option.bind_eq_some_iff] at h1
    obtain⟨a0,hg,h1⟩:=h1
    obtain⟨ha,h1⟩:=bC h1
    injection h1 with h1
    injection h1 with e1 e2
    subst e1; subst e2
    obtain⟨ev,h3,h4⟩:=told hg ha
    refine Calls.mono (Go.Proofs.Any.strconv_Atoi_syntax L ⟨s.toArray⟩ (by rw[hsz]; omega) (by simpa using hv) ev w h3 h4) fun e w' he=>?_
    obtain⟨N,rfl,_,_,B⟩:=he
    exact fin B (by simp only[aW]; exact⟨_,rfl,rfl⟩)
   ·simp only[Option.bind_eq_some_iff] at h1
    obtain⟨a0,hg,h1⟩:=h1
    obtain⟨ha,h1⟩:=bC h1
    injection h1 with h1
    injection h1 with e1 e2
    subst e1; subst e2
    obtain⟨ev,h3,h4⟩:=told hg ha
    refine Calls.mono (Go.Proofs.Any.strconv_Atoi_range L ⟨s.toArray⟩ (by rw[hsz]; omega) (by simpa using hv) ev w h3 h4) fun e w' he=>?_
    obtain⟨N,rfl,_,_,B⟩:=he
    exact fin B (by simp only[aW]; exact⟨_,rfl,rfl⟩)
end
end Go.Ev
end
section
set_option linter.all false
namespace Go.Ev
open Go.RowKit (Below)
open Go.Shelf (Ren)
open Go.Proofs (LaysM.n246 enters_of)
def Et:List AV→List Int→Bool
 | [],[]=>true
 | .int .u64 n :: l,z :: zs=>decide (n=z) && Et l zs
 | _,_=>false
def Ah (st:St)(g:Nat):Bool:=match st.old g 0 with
 | some (.tuple cs)=>Et cs Go.Lib.pow10Tab
 | _=>false
def N8 (gT:Nat)(n:Int)(st:St):Option (List UInt8):=cond (Ah st gT && (decide (-9223372036854775808≤n) && decide (n≤9223372036854775807))) (some (Go.Lib.itoa n)) none
def CH (g gT:Nat)(old:FuncId→List AV→St→Option (AV×St)):FuncId→List AV→St→Option (AV×St):=fun f args st=>cond (Nat.beq f g) (match args with
 | [.int .i64 n,.int .i64 10]=>(N8 gT n st).map fun s=>(.str s,st)
 | _=>none) (old f args st)
section
variable {W0:World}{G:Gh}{st:St}{w:World}{P:Program}
theorem Eh:∀{cs:List AV} {zs:List Int} {vs:List Value},Et cs zs=true→aT G st w cs vs→vs=zs.map fun z=>Value.int .u64 z
 | [],[],vs,_,h=>by rw[h.gV]; rfl
 | [],_ :: _,vs,h,_=>by cases h
 | a :: l,[],vs,h,_=>by simp[Et] at h
 | a :: l, z :: zs, vs, h, hr => by
   cases a <;> first | (cases h; done) | skip
   rename_i k n
   cases k <;> first | (cases h; done) | skip
   simp only[Et,Bool.and_eq_true,decide_eq_true_eq] at h
   obtain⟨rfl,h2⟩:=h
   obtain⟨v1,l1,rfl,r1,hr'⟩:=hr.cons_inv
   simp only[aW] at r1
   subst r1
   rw[Eh h2 hr']
   rfl
theorem J6 {ρ:Ren}{old:FuncId→List AV→St→Option (AV×St)}(ho:rQ P old)(L:LaysM.n246 P ρ){gT:Nat}(hg:P.globalNamed "internal/strconv.uint64pow10" =some gT):rQ P (CH (ρ.f 246) gT old):=by
 intro f args st v st' hx W0 G w vs I hr
 unfold CH at hx
 cases hfg:Nat.beq f (ρ.f 246) with
 | false=>rw[hfg] at hx; exact ho f args st v st' hx W0 G w vs I hr
 | true =>
   rw[hfg] at hx
   have:=Nat.eq_of_beq_eq_true hfg
   subst this
   simp only[cond_true] at hx
   split at hx
   rotate_left
   ·cases hx
   rename_i n
   obtain⟨s,h1,hx⟩:=Option.map_eq_some_iff.1 hx
   injection hx with e1 e2
   subst e1; subst e2
   unfold N8 at h1
   obtain⟨h2,h1⟩:=bC h1
   injection h1 with h1
   subst h1
   simp only[Bool.and_eq_true,decide_eq_true_eq] at h2
   obtain⟨h2,h3,h4⟩:=h2
   obtain⟨v1,l1,e1,r1,hr⟩:=hr.cons_inv
   obtain⟨v2,l2,e2,r2,hr⟩:=hr.cons_inv
   have e4:=hr.gV
   subst e4; subst e2
   simp only[aW] at r1 r2
   subst r1; subst r2
   have:vs= #[.int .i64 n,.int .i64 10]:=by apply Array.ext'; simpa using e1
   subst this
   have htab:Go.Lib.TabIs P w "internal/strconv.uint64pow10" .u64 Go.Lib.pow10Tab:=by
    unfold Ah at h2
    split at h2
    rotate_left
    ·cases h2
    rename_i cs hcs
    obtain⟨hb,_,hq⟩:=I.old _ _ _ hcs
    obtain⟨vs',t,z,h5,h6⟩:=hq cs rfl
    have h7:=Eh h2 (h6 G st w)
    unfold Go.Lib.TabIs World.var?
    rw[hg,Option.bind_some,I.below.block gT hb,h5]
    simp only[Option.some.injEq]
    apply Array.ext'
    simpa using h7
   refine .inr ⟨Go.Proofs.enters_of L.f246 (by kernel_rfl) rfl _ _,Calls.mono (Go.Proofs.Any.internal_strconv_FormatInt_10 L n h3 h4 w htab) fun e w' he=>?_⟩
   obtain⟨rfl,k,os,rfl⟩:=he
   exact⟨_,G,rfl,BL I (Go.Lib.below_grow _ _ (Nat.le_refl _) _ _),by simp only[aW]⟩
end
theorem Dp {C:zV}{ext:Ext}{rounds n:Nat}{f:FuncId}{args:List AV}{v:AV}{st st':St}(he:ext f args=none)(h:C.Bi f args st=some (v,st')):b7 (aR C ext rounds (n+1)) false f args st v st':=
 ⟨false,fun k=>by simp only[aR,he,h]⟩
end Go.Ev
end
section
set_option linter.all false
set_option maxRecDepth 100000
namespace Go.Proofs.YthodfojhbbendaaDoor
open Go Go.Ev
noncomputable section
noncomputable def C0:zV:=⟨Tryd.prog,fun _=>false,CH 51 0 (Bh 57 108 1 2 Mb)⟩
theorem F4:C0.P.follows .mixedOrders=true:=by kernel_rfl
theorem HY:rQ C0.P C0.Bi:=J6 (P:=Tryd.prog) (ρ:=Tryd.laysFm_ren) (gT:=0) (HM (ρ:=Tryd.laysAt_ren) Kk Tryd.laysAt) Tryd.laysFm (by kernel_rfl)
theorem Mw:oX C0.P (DU 84):=JB Tryd.func84 (by kernel_rfl) (by kernel_rfl) (by kernel_rfl) (by kernel_rfl)
noncomputable def OV:Ext:=Eu 66 (DU 84)
theorem Jy:oX C0.P OV:=Hm (P:=Tryd.prog) (ρ:=Tryd.laysPI_ren) Mw Tryd.laysPI
theorem Kq:aR C0 OV 100000 (999+1) false 9 [] St.empty (fun _ v _=>oS v)=true:=by kernel_rfl
theorem Ov (w:World):Calls Tryd.prog 9 #[] w fun e w'=>e=.returned (.bool true)∧Go.RowKit.Below w.heap.size w w':=
 Il (C:=C0) (rounds:=100000) (n:=999) F4 Jy HY (Go.RowKit.Below.refl _ _) (fun _ _ _=>aT.nil) Kq (by kernel_rfl)
noncomputable def rH:Ext:=Ei 9 true OV
theorem Jm:oX C0.P rH:=Ho Jy Tryd.func9 (by kernel_rfl) (by kernel_rfl) Ov
noncomputable def xIdx (R:Nat)(s:List UInt8)(c:Int):Option Int:=some (vK s (c.toNat % 256) 0)
theorem Ml (R n:Nat)(s:List UInt8)(c:Int)(st:St)(r:Int)(h:xIdx R s c=some r):b7 (aR C0 rH R (n+1)) false 84 [.str s,.int .u8 c] st (.int .i64 r) st:=by
 obtain rfl:=Option.some.inj h
 exact lE rfl st
end
end Go.Proofs.YthodfojhbbendaaDoor
end
section
set_option linter.all false
set_option maxRecDepth 100000
namespace Go.Proofs.YthodfojhbbendaaDoor
open Go Go.Ev
noncomputable section
theorem cB {α:Type}{a b:α}(h:some a=some b):a=b:=Option.some.inj h
theorem aK {p:Prop}{l:List Prop}(h:p)(t:mA l):mA (p :: l):=.cons h t
theorem gD:mA []:=.nil
abbrev eZ (a0:Int)(a1:List UInt8)(a2:Int):AV:=.agg [(.int .i64 a0),(.str a1),(.int .i64 a2)]
abbrev aN (a0:Int)(a1:List UInt8)(a2:Int)(a3:Bool)(a4:Int)(a5:List UInt8)(a6:AV)(a7:AV)(a8:AV)(a9:AV):AV:=.agg [(.int .i64 a0),(.str a1),(.int .i64 a2),(.bool a3),(.int .i64 a4),(.str a5),a6,a7,a8,a9]
abbrev nS (a0:Int)(a1:Bool)(a2:Int)(a3:List UInt8)(a4:AV)(a5:AV):AV:=.agg [(.int .i64 a0),(.bool a1),(.int .i64 a2),(.str a3),a4,a5]
abbrev aG (a0:Int)(a1:List UInt8)(a2:List UInt8)(a3:Int)(a4:List UInt8)(a5:Int)(a6:Bool)(a7:Int)(a8:List UInt8)(a9:AV)(a:AV)(b:AV)(c:AV)(d:AV)(e:AV)(f:Int)(g:List UInt8)(h:Int)(i:Bool)(j:Int)(k:List UInt8)(l:AV)(m:AV)(n:AV)(o:AV)(p:AV)(q:Bool)(r:Bool)(s:List UInt8)(t:Bool)(u:Int):AV:=.agg [(.int .i64 a0),(.str a1),(.str a2),(.int .i64 a3),(.str a4),(.int .i64 a5),(.bool a6),(.int .i64 a7),(.str a8),a9,a,b,c,d,e,(.int .i64 f),(.str g),(.int .i64 h),(.bool i),(.int .i64 j),(.str k),l,m,n,o,p,(.bool q),(.bool r),(.str s),(.bool t),(.int .i64 u)]
abbrev dJ (a0:List UInt8)(a1:AV):AV:=.agg [(.str a0),a1]
abbrev kZ:List AV:=[(.int .i64 0),(.str []),(.int .i64 0)]
abbrev Mu:List AV:=[(.int .i64 0),(.str []),(.int .i64 0),(.bool false),(.int .i64 0),(.str []),AV.aB,AV.aB,AV.aB,AV.aB]
noncomputable def gB (R:Nat)(c:List UInt8):Nat→AV→Int→St→Option ((List UInt8×Int×St) ⊕ (St))
 | 0,_,_,_=>none
 | r + 1, d, a, b =>
   if (a < (List.length c : Int)) then
    (Al c a).bind fun e=>
    if (e = 39) then
     if((IntKind.wrap .i64 (a+1))<(List.length c:Int)) then
      (Al c (IntKind.wrap .i64 (a+1))).bind fun f=>
      if(f=39) then
       (eK (aU C0.P (C0.bU 30) 75 1 [(0,(.int .u8 e))]) b).bind fun(g,h)=>
       (bW C0.P (C0.bU 30) h #[75,75] d g).bind fun(i,j)=>
       gB R c r i (IntKind.wrap .i64 ((IntKind.wrap .i64 (a+1))+1)) j
      else
       (strOf b d).bind fun k=>
       some (.inl (k,(IntKind.wrap .i64 (a+1)),b))
     else
      (strOf b d).bind fun l=>
      some (.inl (l,(IntKind.wrap .i64 (a+1)),b))
    else
     (eK (aU C0.P (C0.bU 30) 75 1 [(0,(.int .u8 e))]) b).bind fun(m,n)=>
     (bW C0.P (C0.bU 30) n #[75,75] d m).bind fun(o,p)=>
     gB R c r o (IntKind.wrap .i64 (a+1)) p
   else
    some (.inr b)
noncomputable def pC (o:(List UInt8×Int×St) ⊕ (St)):cZ×List (Nat×AV)×St:=match o with
 | .inl (a0,a1,a2)=>(.ret,[(2,.str a0),(3,.int .i64 a1)],a2)
 | .inr a0=>((.exit 0),[],a0)
theorem sU (R n : Nat) (l : List UInt8) : ∀ (r : Nat) (f : AV) (a : Int) (g : St) (o : (List UInt8 × Int × St) ⊕ (St)), gB R l r f a g = some o →
 cM 46 (lO (fun fr k=>bN C0 (aR C0 rH R n) 30 R none (aQ C0.P 30 [1,1,0,1,0,0]) fr k) r) (bG (aQ C0.P 30 [1,1,0,1,0,0])) [(0,(.str l)),(4,f),(5,(.int .i64 a))] g (pC o).1 (pC o).2.1 (pC o).2.2:=by
 intro r
 induction r with
 | zero=>intro f a g o h; exact nomatch h
 | succ r ih =>
   intro f a g o
   unfold gB;refine bD (fun b=>?_) (fun b=>?_)
   ·refine aA fun c d=>?_;refine bD (fun e=>?_) (fun e=>?_)
    ·refine bD (fun i=>?_) (fun i=>?_)
     ·refine aA fun m On=>?_;refine bD (fun j=>?_) (fun j=>?_)
      ·refine aA fun o v=>?_;obtain⟨w,x⟩:=o;refine aA fun o y=>?_;obtain⟨p,q⟩:=o;intro h;exact dP (aO (hs:=[.run 3,.dec true,.aJ,.aJ,.run 2,.val (.int .u8 c),.dec false,.aJ,.run 4,.dec true,.run 4,.val (.int .u8 m),.dec true,.run 1,.aJ,.run 3,.val (.int .u8 c),.bM w x,.bM p q,.run 7]) (want:=[0,4,5]) (by kernel_rfl) (.cons y<|.cons v<|.cons (iL (k:=.i64) (P:=C0.P) (t:=9) (by kernel_rfl) d)<|.cons (gA j)<|.cons (iL (k:=.i64) (P:=C0.P) (t:=9) (by kernel_rfl) On)<|.cons (decide_eq_true i)<|.cons (vR e)<|.cons (iL (k:=.i64) (P:=C0.P) (t:=9) (by kernel_rfl) d)<|.cons (decide_eq_true b) .nil)) (ih p (IntKind.wrap .i64 ((IntKind.wrap .i64 (a+1))+1)) q _ h)
      ·refine aA fun z A=>?_;intro h;obtain rfl:=cB h;exact cF (aO (hs:=[.run 3,.dec true,.aJ,.aJ,.run 2,.val (.int .u8 c),.dec false,.aJ,.run 4,.dec true,.run 4,.val (.int .u8 m),.dec false,.run 1,.aJ,.run 1,.val (.str z),.run 4]) (want:=[2,3]) (by kernel_rfl) (.cons (Ea A)<|.cons (eW j)<|.cons (iL (k:=.i64) (P:=C0.P) (t:=9) (by kernel_rfl) On)<|.cons (decide_eq_true i)<|.cons (vR e)<|.cons (iL (k:=.i64) (P:=C0.P) (t:=9) (by kernel_rfl) d)<|.cons (decide_eq_true b) .nil)) (by kernel_rfl)
     ·refine aA fun B C=>?_;intro h;obtain rfl:=cB h;exact cF (aO (hs:=[.run 3,.dec true,.aJ,.aJ,.run 2,.val (.int .u8 c),.dec false,.aJ,.run 4,.dec false,.run 2,.aJ,.run 1,.val (.str B),.run 4]) (want:=[2,3]) (by kernel_rfl) (.cons (Ea C)<|.cons (decide_eq_false i)<|.cons (vR e)<|.cons (iL (k:=.i64) (P:=C0.P) (t:=9) (by kernel_rfl) d)<|.cons (decide_eq_true b) .nil)) (by kernel_rfl)
    ·refine aA fun o D=>?_;obtain⟨E,F⟩:=o;refine aA fun o G=>?_;obtain⟨s,u⟩:=o;intro h;exact dP (aO (hs:=[.run 3,.dec true,.aJ,.aJ,.run 2,.val (.int .u8 c),.dec true,.aJ,.run 3,.val (.int .u8 c),.bM E F,.bM s u,.run 4]) (want:=[0,4,5]) (by kernel_rfl) (.cons G<|.cons D<|.cons (iL (k:=.i64) (P:=C0.P) (t:=9) (by kernel_rfl) d)<|.cons (B7 e)<|.cons (iL (k:=.i64) (P:=C0.P) (t:=9) (by kernel_rfl) d)<|.cons (decide_eq_true b) .nil)) (ih s (IntKind.wrap .i64 (a+1)) u _ h)
   ·intro h;obtain rfl:=cB h;exact cF (aO (hs:=[.run 3,.dec false,.aJ]) (want:=[]) (by kernel_rfl) (.cons (decide_eq_false b) .nil)) (by kernel_rfl)
noncomputable def vH (R:Nat)(s1:List UInt8)(st2:St):Option (List UInt8×Int×St):=
 (gB R s1 R AV.aB 1 st2).bind fun o=>match o with
 | .inl (a,b,c)=>
  some (a,b,c)
 | .inr d=>
  some ([],0,d)
theorem FP {R:Nat}(n:Nat){s1:List UInt8}{st2:St}{r:List UInt8×Int×St}(h:vH R s1 st2=some r):
 b7 (aR C0 rH R (n+1)) false 30 [(.str s1)] st2 (.tuple [(.str r.1),(.int .i64 r.2.1)]) r.2.2:=by
 revert h;unfold vH;refine aA fun o a=>?_
 rcases o with⟨b,c,d⟩ | e
 ·intro h;obtain rfl:=cB h;exact aL (hs:=[.run 4,.aJ,.abs [0,4,5] .ret [(2,(.str b)),(3,(.int .i64 c))] d]) (by kernel_rfl) (aK (cW (sU R n s1 R AV.aB 1 st2 _ a)) gD) (by kernel_rfl) (by kernel_rfl)
 ·intro h;obtain rfl:=cB h;exact aL (hs:=[.run 4,.aJ,.abs [0,4,5] (.exit 0) [] e,.run 2]) (by kernel_rfl) (aK (cW (sU R n s1 R AV.aB 1 st2 _ a)) gD) (by kernel_rfl) (by kernel_rfl)
noncomputable def lS (R:Nat)(a:List UInt8)(b:Int):Option (Int):=
 (xIdx R a b).bind fun c=>
 some c
theorem xE {R:Nat}(n:Nat){b:List UInt8}{c:Int}(a:St){r:Int}(h:lS R b c=some r):
 b7 (aR C0 rH R (n+2)) false 72 [(.str b),(.int .u8 c)] a (.int .i64 r) a:=by
 revert h;unfold lS;refine aA fun d e=>?_;intro h;obtain rfl:=cB h;exact aL (hs:=[.run 3,.call (.int .i64 d) a,.run 1]) (by kernel_rfl) (aK (Ml R n b c a _ e) gD) (by kernel_rfl) (by kernel_rfl)
noncomputable def o9 (R:Nat)(a:List UInt8)(b:Int):Option (Int):=
 (lS R a b).bind fun c=>
 some c
theorem AP {R:Nat}(n:Nat){b:List UInt8}{c:Int}(a:St){r:Int}(h:o9 R b c=some r):
 b7 (aR C0 rH R (n+3)) false 58 [(.str b),(.int .u8 c)] a (.int .i64 r) a:=by
 revert h;unfold o9;refine aA fun d e=>?_;intro h;obtain rfl:=cB h;exact aL (hs:=[.run 3,.call (.int .i64 d) a,.run 1]) (by kernel_rfl) (aK (xE n a e) gD) (by kernel_rfl) (by kernel_rfl)
noncomputable def s5 (R:Nat)(a:Int):Option (Int):=
 (o9 R [48,49,50,51,52,53,54,55,56,57,97,98,99,100,101,102] a).bind fun b=>
 some b
theorem nQ {R:Nat}(n:Nat){b:Int}(a:St){r:Int}(h:s5 R b=some r):
 b7 (aR C0 rH R (n+4)) false 45 [(.int .u8 b)] a (.int .i64 r) a:=by
 revert h;unfold s5;refine aA fun c d=>?_;intro h;obtain rfl:=cB h;exact aL (hs:=[.run 2,.call (.int .i64 c) a,.run 1]) (by kernel_rfl) (aK (AP n a d) gD) (by kernel_rfl) (by kernel_rfl)
noncomputable def iW (R:Nat)(a:List UInt8):Nat→AV→Int→St→Option ((List UInt8×Bool×St) ⊕ (AV×St))
 | 0,_,_,_=>none
 | r + 1, d, b, c =>
   if ((IntKind.wrap .i64 (b + 1)) < (List.length a : Int)) then
    (Al a b).bind fun g=>
    (Al a (IntKind.wrap .i64 (b+1))).bind fun h=>
    (s5 R g).bind fun e=>
    (s5 R h).bind fun f=>
    if(e<0) then
     some (.inl ([],false,c))
    else
     if(f<0) then
      some (.inl ([],false,c))
     else
      (eK (aU C0.P (C0.bU 31) 75 1 [(0,(.int .u8 (IntKind.wrap .u8 (Pp .i64 (IntKind.wrap .i64 (e * 2 ^ 4)) f))))]) c).bind fun(i,j)=>
      (bW C0.P (C0.bU 31) j #[75,75] d i).bind fun(k,l)=>
      iW R a r k (IntKind.wrap .i64 (b+2)) l
   else
    some (.inr (d,c))
noncomputable def s6 (o:(List UInt8×Bool×St) ⊕ (AV×St)):cZ×List (Nat×AV)×St:=match o with
 | .inl (a0,a1,a2)=>(.ret,[(2,.str a0),(3,.bool a1)],a2)
 | .inr (a0,a1)=>((.exit 0),[(4,a0)],a1)
theorem vW (R n : Nat) (u : List UInt8) : ∀ (r : Nat) (d : AV) (b : Int) (a : St) (o : (List UInt8 × Bool × St) ⊕ (AV × St)), iW R u r d b a = some o →
 cM 48 (lO (fun fr k=>bN C0 (aR C0 rH R (n+4)) 31 R none (aQ C0.P 31 [1,1,0,1,0,0]) fr k) r) (bG (aQ C0.P 31 [1,1,0,1,0,0])) [(0,(.str u)),(4,d),(5,(.int .i64 b))] a (s6 o).1 (s6 o).2.1 (s6 o).2.2:=by
 intro r
 induction r with
 | zero=>intro d b a o h; exact nomatch h
 | succ r ih =>
   intro d b a o
   unfold iW;refine bD (fun c=>?_) (fun c=>?_)
   ·refine aA fun f g=>?_;refine aA fun i j=>?_;refine aA fun l m=>?_;refine aA fun p q=>?_;refine bD (fun e=>?_) (fun e=>?_)
    ·intro h;obtain rfl:=cB h;exact cF (aO (hs:=[.run 4,.dec true,.aJ,.aJ,.run 2,.val (.int .u8 f),.run 3,.val (.int .u8 i),.call (.int .i64 l) a,.call (.int .i64 p) a,.run 3,.dec true,.run 2,.aJ,.run 2]) (want:=[2,3]) (by kernel_rfl) (.cons (decide_eq_true e)<|.cons (nQ n a q)<|.cons (nQ n a m)<|.cons (iL (k:=.i64) (P:=C0.P) (t:=9) (by kernel_rfl) j)<|.cons (iL (k:=.i64) (P:=C0.P) (t:=9) (by kernel_rfl) g)<|.cons (decide_eq_true c) .nil)) (by kernel_rfl)
    ·refine bD (fun s=>?_) (fun s=>?_)
     ·intro h;obtain rfl:=cB h;exact cF (aO (hs:=[.run 4,.dec true,.aJ,.aJ,.run 2,.val (.int .u8 f),.run 3,.val (.int .u8 i),.call (.int .i64 l) a,.call (.int .i64 p) a,.run 3,.dec false,.run 2,.dec true,.run 1,.aJ,.run 2]) (want:=[2,3]) (by kernel_rfl) (.cons (decide_eq_true s)<|.cons (decide_eq_false e)<|.cons (nQ n a q)<|.cons (nQ n a m)<|.cons (iL (k:=.i64) (P:=C0.P) (t:=9) (by kernel_rfl) j)<|.cons (iL (k:=.i64) (P:=C0.P) (t:=9) (by kernel_rfl) g)<|.cons (decide_eq_true c) .nil)) (by kernel_rfl)
     ·refine aA fun o x=>?_;obtain⟨y,z⟩:=o;refine aA fun o A=>?_;obtain⟨v,w⟩:=o;intro h;exact dP (aO (hs:=[.run 4,.dec true,.aJ,.aJ,.run 2,.val (.int .u8 f),.run 3,.val (.int .u8 i),.call (.int .i64 l) a,.call (.int .i64 p) a,.run 3,.dec false,.run 2,.dec false,.run 1,.aJ,.run 6,.bM y z,.bM v w,.run 4]) (want:=[0,4,5]) (by kernel_rfl) (.cons A<|.cons x<|.cons (decide_eq_false s)<|.cons (decide_eq_false e)<|.cons (nQ n a q)<|.cons (nQ n a m)<|.cons (iL (k:=.i64) (P:=C0.P) (t:=9) (by kernel_rfl) j)<|.cons (iL (k:=.i64) (P:=C0.P) (t:=9) (by kernel_rfl) g)<|.cons (decide_eq_true c) .nil)) (ih v (IntKind.wrap .i64 (b+2)) w _ h)
   ·intro h;obtain rfl:=cB h;exact cF (aO (hs:=[.run 4,.dec false,.aJ]) (want:=[4]) (by kernel_rfl) (.cons (decide_eq_false c) .nil)) (by kernel_rfl)
noncomputable def yV (R:Nat)(a:List UInt8)(d:St):Option (List UInt8×Bool×St):=
 (eK (sR C0.P 75 (.int .i64 0) (.int .i64 (IntKind.wrap .i64 (Int.tdiv (List.length a:Int) 2)))) d).bind fun(e,f)=>
 (iW R a R e 0 f).bind fun o=>match o with
 | .inl (g,h,i)=>
  some (g,h,i)
 | .inr (j, b) =>
  (strOf b j).bind fun c=>
  if((Int.tmod (List.length a:Int) 2)=0) then
   some (c,true,b)
  else
   some (c,false,b)
theorem Im {R:Nat}(n:Nat){c:List UInt8}{e:St}{r:List UInt8×Bool×St}(h:yV R c e=some r):
 b7 (aR C0 rH R (n+5)) false 31 [(.str c)] e (.tuple [(.str r.1),(.bool r.2.1)]) r.2.2:=by
 revert h;unfold yV;refine aA fun o f=>?_;obtain⟨a,b⟩:=o;refine aA fun o g=>?_
 rcases o with⟨l,m,p⟩ | ⟨i,j⟩
 ·intro h;obtain rfl:=cB h;exact aL (hs:=[.run 5,.bM a b,.run 2,.aJ,.abs [0,4,5] .ret [(2,(.str l)),(3,(.bool m))] p]) (by kernel_rfl) (aK (cW (vW R n c R a 0 b _ g))<|aK f gD) (by kernel_rfl) (by kernel_rfl)
 ·refine aA fun k q=>?_;have q9001:=aK (Ea q)<|aK (cW (vW R n c R a 0 b _ g))<|aK f gD
  refine bD (fun d=>?_) (fun d=>?_)
  ·intro h;obtain rfl:=cB h;exact aL (hs:=[.run 5,.bM a b,.run 2,.aJ,.abs [0,4,5] (.exit 0) [(4,i)] j,.run 1,.val (.str k),.run 3,.dec true,.run 2]) (by kernel_rfl) (aK (gA d) q9001) (by kernel_rfl) (by kernel_rfl)
  ·intro h;obtain rfl:=cB h;exact aL (hs:=[.run 5,.bM a b,.run 2,.aJ,.abs [0,4,5] (.exit 0) [(4,i)] j,.run 1,.val (.str k),.run 3,.dec false,.run 2]) (by kernel_rfl) (aK (eW d) q9001) (by kernel_rfl) (by kernel_rfl)
noncomputable def bS (R:Nat)(c:AV)(d:List UInt8)(e:Int):Nat→Int→St→Option ((Int×St) ⊕ (St))
 | 0,_,_=>none
 | r + 1, a, b =>
   if(a<e) then
    (cV C0.P 22 c (.int .i64 a)).bind fun f=>
    (loadAt C0.P b 9 f).bind fun g=>
    (iZ g).bind fun h=>
    if(d=h) then
     some (.inl (a,b))
    else
     bS R c d e r (IntKind.wrap .i64 (a+1)) b
   else
    some (.inr b)
noncomputable def gU (o:(Int×St) ⊕ (St)):cZ×List (Nat×AV)×St:=match o with
 | .inl (a0,a1)=>(.ret,[(4,.int .i64 a0)],a1)
 | .inr a0=>((.exit 0),[],a0)
theorem kF (R n : Nat) (e : AV) (f : List UInt8) (g : Int) : ∀ (r : Nat) (a : Int) (b : St) (o : (Int × St) ⊕ (St)), bS R e f g r a b = some o →
 cM 19 (lO (fun fr k=>bN C0 (aR C0 rH R n) 73 R none (aQ C0.P 73 [1,0,1,0,0]) fr k) r) (bG (aQ C0.P 73 [1,0,1,0,0])) [(0,e),(1,(.str f)),(7,(.int .i64 g)),(8,(.int .i64 a))] b (gU o).1 (gU o).2.1 (gU o).2.2:=by
 intro r
 induction r with
 | zero=>intro a b o h; exact nomatch h
 | succ r ih =>
   intro a b o
   unfold bS;refine bD (fun c=>?_) (fun c=>?_)
   ·refine aA fun i j=>?_;refine aA fun q l=>?_;refine aA fun m p=>?_;obtain rfl:=dY p;refine bD (fun d=>?_) (fun d=>?_)
    ·intro h;obtain rfl:=cB h;exact cF (aO (hs:=[.dec true,.aJ,.aJ,.run 5,.val i,.val (.str m),.dec true,.aJ,.run 2]) (want:=[4]) (by kernel_rfl) (.cons (mK d)<|.cons l<|.cons j<|.cons (decide_eq_true c) .nil)) (by kernel_rfl)
    ·intro h;exact dP (aO (hs:=[.dec true,.aJ,.aJ,.run 5,.val i,.val (.str m),.dec false,.aJ,.run 2]) (want:=[0,1,7,8]) (by kernel_rfl) (.cons (kY d)<|.cons l<|.cons j<|.cons (decide_eq_true c) .nil)) (ih (IntKind.wrap .i64 (a+1)) b _ h)
   ·intro h;obtain rfl:=cB h;exact cF (aO (hs:=[.dec false,.aJ]) (want:=[]) (by kernel_rfl) (.cons (decide_eq_false c) .nil)) (by kernel_rfl)
noncomputable def iA (R:Nat)(a:AV)(b:List UInt8)(c:St):Option (Int×St):=
 (lenOf a).bind fun n162=>
 (bS R a b (n162:Int) R 0 c).bind fun o=>match o with
 | .inl (d,e)=>
  some (d,e)
 | .inr f=>
  some ((-1),f)
theorem qV {R:Nat}(n:Nat){a:AV}{b:List UInt8}{c:St}{r:Int×St}(h:iA R a b c=some r):
 b7 (aR C0 rH R (n+1)) false 73 [a,(.str b)] c (.int .i64 r.1) r.2:=by
 revert h;unfold iA;refine aA fun n162 d=>?_;refine aA fun o f=>?_
 rcases o with⟨g,i⟩ | j
 ·intro h;obtain rfl:=cB h;exact aL (hs:=[.run 2,.val (.int .i64 (n162:Int)),.run 1,.aJ,.abs [0,1,7,8] .ret [(4,(.int .i64 g))] i]) (by kernel_rfl) (aK (cW (kF R n a b (n162:Int) R 0 c _ f))<|aK (fD (P:=C0.P) (t:=22) (e:=9) (by kernel_rfl) d) gD) (by kernel_rfl) (by kernel_rfl)
 ·intro h;obtain rfl:=cB h;exact aL (hs:=[.run 2,.val (.int .i64 (n162:Int)),.run 1,.aJ,.abs [0,1,7,8] (.exit 0) [] j,.run 1]) (by kernel_rfl) (aK (cW (kF R n a b (n162:Int) R 0 c _ f))<|aK (fD (P:=C0.P) (t:=22) (e:=9) (by kernel_rfl) d) gD) (by kernel_rfl) (by kernel_rfl)
noncomputable def gC (R:Nat)(b:AV)(c:List UInt8)(d:St):Option (Bool×St):=
 (iA R b c d).bind fun(e,a)=>
 if(e≥0) then
  some (true,a)
 else
  some (false,a)
theorem pF {R:Nat}(n:Nat){b:AV}{c:List UInt8}{d:St}{r:Bool×St}(h:gC R b c d=some r):
 b7 (aR C0 rH R (n+2)) false 59 [b,(.str c)] d (.bool r.1) r.2:=by
 revert h;unfold gC;refine aA fun o g=>?_;obtain⟨e,f⟩:=o;have q9002:=aK (qV n g) gD
 refine bD (fun a=>?_) (fun a=>?_)
 ·intro h;obtain rfl:=cB h;exact aL (hs:=[.run 3,.call (.int .i64 e) f,.dec true,.run 1]) (by kernel_rfl) (aK (decide_eq_true a) q9002) (by kernel_rfl) (by kernel_rfl)
 ·intro h;obtain rfl:=cB h;exact aL (hs:=[.run 3,.call (.int .i64 e) f,.dec false,.run 1]) (by kernel_rfl) (aK (decide_eq_false a) q9002) (by kernel_rfl) (by kernel_rfl)
noncomputable def Br (R:Nat)(a:List UInt8)(b:St):Option (Bool×St):=
 (eK (aU C0.P (C0.bU 47) 22 26 [(0,(.str [65,78,68])),(1,(.str [66,89])),(2,(.str [67,79,85,78,84])),(3,(.str [67,82,69,65,84,69])),(4,(.str [68,69,76,69,84,69])),(5,(.str [68,69,83,67])),(6,(.str [70,65,76,83,69])),(7,(.str [70,82,79,77])),(8,(.str [72,73,83,84,79,82,89])),(9,(.str [73,78,68,69,88])),(10,(.str [73,78,83,69,82,84])),(11,(.str [73,78,84,79])),(12,(.str [73,83])),(13,(.str [76,73,77,73,84])),(14,(.str [78,79,84])),(15,(.str [78,85,76,76])),(16,(.str [79,78])),(17,(.str [79,82])),(18,(.str [79,82,68,69,82])),(19,(.str [83,69,76,69,67,84])),(20,(.str [83,69,84])),(21,(.str [84,65,66,76,69])),(22,(.str [84,82,85,69])),(23,(.str [85,80,68,65,84,69])),(24,(.str [86,65,76,85,69])),(25,(.str [87,72,69,82,69]))]) b).bind fun(c,d)=>
 (gC R c a d).bind fun(e,f)=>
 some (e,f)
theorem Ie {R:Nat}(n:Nat){a:List UInt8}{b:St}{r:Bool×St}(h:Br R a b=some r):
 b7 (aR C0 rH R (n+3)) false 47 [(.str a)] b (.bool r.1) r.2:=by
 revert h;unfold Br;refine aA fun o c=>?_;obtain⟨d,e⟩:=o;refine aA fun o f=>?_;obtain⟨g,i⟩:=o;intro h;obtain rfl:=cB h;exact aL (hs:=[.run 1,.bM d e,.run 1,.call (.bool g) i,.run 1]) (by kernel_rfl) (aK (pF n f)<|aK c gD) (by kernel_rfl) (by kernel_rfl)
noncomputable def gX (R:Nat)(c:List UInt8)(d:Int):Nat→Int→Option ((Bool) ⊕ (Unit))
 | 0,_=>none
 | r + 1, a =>
   if (a < d) then
    (Al c a).bind fun b=>
    if (b ≥ 97) then
     if(b≤122) then
      gX R c d r (IntKind.wrap .i64 (a+1))
     else
      if(a=0) then
       some (.inl false)
      else
       some (.inl false)
    else
     if (b ≥ 65) then
      if(b≤90) then
       gX R c d r (IntKind.wrap .i64 (a+1))
      else
       if(b=95) then
        gX R c d r (IntKind.wrap .i64 (a+1))
       else
        if(a=0) then
         some (.inl false)
        else
         some (.inl false)
     else
      if(a=0) then
       some (.inl false)
      else
       if(b<48) then
        some (.inl false)
       else
        if(b>57) then
         some (.inl false)
        else
         gX R c d r (IntKind.wrap .i64 (a+1))
   else
    some (.inr ())
noncomputable def qA (st:St)(o:(Bool) ⊕ (Unit)):cZ×List (Nat×AV)×St:=match o with
 | .inl a0=>(.ret,[(2,.bool a0)],st)
 | .inr ()=>((.exit 0),[],st)
theorem tM (R n : Nat) (v : List UInt8) (w : Int) (j : St) : ∀ (r : Nat) (f : Int) (o : (Bool) ⊕ (Unit)), gX R v w r f = some o →
 cM 55 (lO (fun fr k=>bN C0 (aR C0 rH R n) 48 R none (aQ C0.P 48 [1,0,1,0,0]) fr k) r) (bG (aQ C0.P 48 [1,0,1,0,0])) [(0,(.str v)),(7,(.int .i64 w)),(8,(.int .i64 f))] j (qA j o).1 (qA j o).2.1 (qA j o).2.2:=by
 intro r
 induction r with
 | zero=>intro f o h; exact nomatch h
 | succ r ih =>
   intro f o
   unfold gX;refine bD (fun b=>?_) (fun b=>?_)
   ·refine aA fun a d => ?_
    refine bD (fun c=>?_) (fun c=>?_)
    ·refine bD (fun l=>?_) (fun l=>?_)
     ·intro h;exact dP (aO (hs:=[.dec true,.aJ,.aJ,.run 4,.val (.int .u8 a),.run 2,.dec true,.run 2,.dec true,.run 10,.aJ,.run 2]) (want:=[0,7,8]) (by kernel_rfl) (.cons (decide_eq_true l)<|.cons (decide_eq_true c)<|.cons (iL (k:=.i64) (P:=C0.P) (t:=9) (by kernel_rfl) d)<|.cons (decide_eq_true b) .nil)) (ih (IntKind.wrap .i64 (f+1)) _ h)
     ·refine bD (fun q=>?_) (fun q=>?_)
      ·intro h;obtain rfl:=cB h;exact cF (aO (hs:=[.dec true,.aJ,.aJ,.run 4,.val (.int .u8 a),.run 2,.dec true,.run 2,.dec false,.run 3,.dec true,.run 2,.dec false,.run 4,.dec false,.run 6,.dec true,.run 5,.aJ,.run 1]) (want:=[2]) (by kernel_rfl) (.cons (gA q)<|.cons (eW (show ¬ (a=95) by omega))<|.cons (decide_eq_false (show ¬ (a≤90) by omega))<|.cons (decide_eq_true (show(a≥65) by omega))<|.cons (decide_eq_false l)<|.cons (decide_eq_true c)<|.cons (iL (k:=.i64) (P:=C0.P) (t:=9) (by kernel_rfl) d)<|.cons (decide_eq_true b) .nil)) (by kernel_rfl)
      ·intro h;obtain rfl:=cB h;exact cF (aO (hs:=[.dec true,.aJ,.aJ,.run 4,.val (.int .u8 a),.run 2,.dec true,.run 2,.dec false,.run 3,.dec true,.run 2,.dec false,.run 4,.dec false,.run 6,.dec false,.run 2,.dec false,.run 3,.dec true,.run 2,.aJ,.run 1]) (want:=[2]) (by kernel_rfl) (.cons (decide_eq_true (show(a>57) by omega))<|.cons (decide_eq_false (show ¬ (a<48) by omega))<|.cons (eW q)<|.cons (eW (show ¬ (a=95) by omega))<|.cons (decide_eq_false (show ¬ (a≤90) by omega))<|.cons (decide_eq_true (show(a≥65) by omega))<|.cons (decide_eq_false l)<|.cons (decide_eq_true c)<|.cons (iL (k:=.i64) (P:=C0.P) (t:=9) (by kernel_rfl) d)<|.cons (decide_eq_true b) .nil)) (by kernel_rfl)
    ·refine bD (fun e=>?_) (fun e=>?_)
     ·refine bD (fun g=>?_) (fun g=>?_)
      ·intro h;exact dP (aO (hs:=[.dec true,.aJ,.aJ,.run 4,.val (.int .u8 a),.run 2,.dec false,.run 4,.dec true,.run 2,.dec true,.run 9,.aJ,.run 2]) (want:=[0,7,8]) (by kernel_rfl) (.cons (decide_eq_true g)<|.cons (decide_eq_true e)<|.cons (decide_eq_false c)<|.cons (iL (k:=.i64) (P:=C0.P) (t:=9) (by kernel_rfl) d)<|.cons (decide_eq_true b) .nil)) (ih (IntKind.wrap .i64 (f+1)) _ h)
      ·refine bD (fun m=>?_) (fun m=>?_)
       ·intro h;exact dP (aO (hs:=[.dec true,.aJ,.aJ,.run 4,.val (.int .u8 a),.run 2,.dec false,.run 4,.dec true,.run 2,.dec false,.run 4,.dec true,.run 6,.aJ,.run 2]) (want:=[0,7,8]) (by kernel_rfl) (.cons (gA m)<|.cons (decide_eq_false g)<|.cons (decide_eq_true e)<|.cons (decide_eq_false c)<|.cons (iL (k:=.i64) (P:=C0.P) (t:=9) (by kernel_rfl) d)<|.cons (decide_eq_true b) .nil)) (ih (IntKind.wrap .i64 (f+1)) _ h)
       ·refine bD (fun s=>?_) (fun s=>?_)
        ·intro h;obtain rfl:=cB h;exact cF (aO (hs:=[.dec true,.aJ,.aJ,.run 4,.val (.int .u8 a),.run 2,.dec false,.run 4,.dec true,.run 2,.dec false,.run 4,.dec false,.run 6,.dec true,.run 5,.aJ,.run 1]) (want:=[2]) (by kernel_rfl) (.cons (gA s)<|.cons (eW m)<|.cons (decide_eq_false g)<|.cons (decide_eq_true e)<|.cons (decide_eq_false c)<|.cons (iL (k:=.i64) (P:=C0.P) (t:=9) (by kernel_rfl) d)<|.cons (decide_eq_true b) .nil)) (by kernel_rfl)
        ·intro h;obtain rfl:=cB h;exact cF (aO (hs:=[.dec true,.aJ,.aJ,.run 4,.val (.int .u8 a),.run 2,.dec false,.run 4,.dec true,.run 2,.dec false,.run 4,.dec false,.run 6,.dec false,.run 2,.dec false,.run 3,.dec true,.run 2,.aJ,.run 1]) (want:=[2]) (by kernel_rfl) (.cons (decide_eq_true (show(a>57) by omega))<|.cons (decide_eq_false (show ¬ (a<48) by omega))<|.cons (eW s)<|.cons (eW m)<|.cons (decide_eq_false g)<|.cons (decide_eq_true e)<|.cons (decide_eq_false c)<|.cons (iL (k:=.i64) (P:=C0.P) (t:=9) (by kernel_rfl) d)<|.cons (decide_eq_true b) .nil)) (by kernel_rfl)
     ·refine bD (fun i=>?_) (fun i=>?_)
      ·intro h;obtain rfl:=cB h;exact cF (aO (hs:=[.dec true,.aJ,.aJ,.run 4,.val (.int .u8 a),.run 2,.dec false,.run 4,.dec false,.run 5,.dec false,.run 6,.dec true,.run 5,.aJ,.run 1]) (want:=[2]) (by kernel_rfl) (.cons (gA i)<|.cons (eW (show ¬ (a=95) by omega))<|.cons (decide_eq_false e)<|.cons (decide_eq_false c)<|.cons (iL (k:=.i64) (P:=C0.P) (t:=9) (by kernel_rfl) d)<|.cons (decide_eq_true b) .nil)) (by kernel_rfl)
      ·refine bD (fun p=>?_) (fun p=>?_)
       ·intro h;obtain rfl:=cB h;exact cF (aO (hs:=[.dec true,.aJ,.aJ,.run 4,.val (.int .u8 a),.run 2,.dec false,.run 4,.dec false,.run 5,.dec false,.run 6,.dec false,.run 2,.dec true,.run 4,.aJ,.run 1]) (want:=[2]) (by kernel_rfl) (.cons (decide_eq_true p)<|.cons (eW i)<|.cons (eW (show ¬ (a=95) by omega))<|.cons (decide_eq_false e)<|.cons (decide_eq_false c)<|.cons (iL (k:=.i64) (P:=C0.P) (t:=9) (by kernel_rfl) d)<|.cons (decide_eq_true b) .nil)) (by kernel_rfl)
       ·refine bD (fun u=>?_) (fun u=>?_)
        ·intro h;obtain rfl:=cB h;exact cF (aO (hs:=[.dec true,.aJ,.aJ,.run 4,.val (.int .u8 a),.run 2,.dec false,.run 4,.dec false,.run 5,.dec false,.run 6,.dec false,.run 2,.dec false,.run 3,.dec true,.run 2,.aJ,.run 1]) (want:=[2]) (by kernel_rfl) (.cons (decide_eq_true u)<|.cons (decide_eq_false p)<|.cons (eW i)<|.cons (eW (show ¬ (a=95) by omega))<|.cons (decide_eq_false e)<|.cons (decide_eq_false c)<|.cons (iL (k:=.i64) (P:=C0.P) (t:=9) (by kernel_rfl) d)<|.cons (decide_eq_true b) .nil)) (by kernel_rfl)
        ·intro h;exact dP (aO (hs:=[.dec true,.aJ,.aJ,.run 4,.val (.int .u8 a),.run 2,.dec false,.run 4,.dec false,.run 5,.dec false,.run 6,.dec false,.run 2,.dec false,.run 3,.dec false,.run 2,.aJ,.run 2]) (want:=[0,7,8]) (by kernel_rfl) (.cons (decide_eq_false u)<|.cons (decide_eq_false p)<|.cons (eW i)<|.cons (eW (show ¬ (a=95) by omega))<|.cons (decide_eq_false e)<|.cons (decide_eq_false c)<|.cons (iL (k:=.i64) (P:=C0.P) (t:=9) (by kernel_rfl) d)<|.cons (decide_eq_true b) .nil)) (ih (IntKind.wrap .i64 (f+1)) _ h)
   ·intro h;obtain rfl:=cB h;exact cF (aO (hs:=[.dec false,.aJ]) (want:=[]) (by kernel_rfl) (.cons (decide_eq_false b) .nil)) (by kernel_rfl)
noncomputable def uQ (R:Nat)(a:List UInt8):Option (Bool):=
 (gX R a (List.length a:Int) R 0).bind fun o=>match o with
 | .inl b=>
  some b
 | .inr _ =>
  if((List.length a:Int)≥1) then
   if((List.length a:Int)≤16) then
    some true
   else
    some false
  else
   some false
theorem FJ {R : Nat} (n : Nat) {b : List UInt8} (a : St) {r : Bool} (h : uQ R b = some r):
 b7 (aR C0 rH R (n+1)) false 48 [(.str b)] a (.bool r) a:=by
 revert h;unfold uQ;refine aA fun o e=>?_
 rcases o with f | _
 ·intro h;obtain rfl:=cB h;exact aL (hs:=[.run 4,.aJ,.abs [0,7,8] .ret [(2,(.bool f))] a]) (by kernel_rfl) (aK (cW (tM R n b (List.length b:Int) a R 0 _ e)) gD) (by kernel_rfl) (by kernel_rfl)
 ·have q9003:=aK (cW (tM R n b (List.length b:Int) a R 0 _ e)) gD
  refine bD (fun c=>?_) (fun c=>?_)
  ·refine bD (fun d=>?_) (fun d=>?_)
   ·intro h;obtain rfl:=cB h;exact aL (hs:=[.run 4,.aJ,.abs [0,7,8] (.exit 0) [] a,.run 2,.dec true,.run 3,.dec true,.run 2]) (by kernel_rfl) (aK (decide_eq_true d)<|aK (decide_eq_true c) q9003) (by kernel_rfl) (by kernel_rfl)
   ·intro h;obtain rfl:=cB h;exact aL (hs:=[.run 4,.aJ,.abs [0,7,8] (.exit 0) [] a,.run 2,.dec true,.run 3,.dec false,.run 2]) (by kernel_rfl) (aK (decide_eq_false d)<|aK (decide_eq_true c) q9003) (by kernel_rfl) (by kernel_rfl)
  ·intro h;obtain rfl:=cB h;exact aL (hs:=[.run 4,.aJ,.abs [0,7,8] (.exit 0) [] a,.run 2,.dec false,.run 3]) (by kernel_rfl) (aK (decide_eq_false c) q9003) (by kernel_rfl) (by kernel_rfl)
noncomputable def rU (R:Nat)(a:Int):Option (Bool):=
 if(a≥97) then
  if(a≤122) then
   some true
  else
   some false
 else
  if (a ≥ 65) then
   if(a≤90) then
    some true
   else
    if(a=95) then
     some true
    else
     some false
  else
   some false
theorem wX {R : Nat} (n : Nat) {a : Int} (g : St) {r : Bool} (h : rU R a = some r):
 b7 (aR C0 rH R (n+1)) false 32 [(.int .u8 a)] g (.bool r) g:=by
 revert h;unfold rU;refine bD (fun b=>?_) (fun b=>?_)
 ·refine bD (fun d=>?_) (fun d=>?_)
  ·intro h;obtain rfl:=cB h;exact aL (hs:=[.run 2,.dec true,.run 2,.dec true,.run 6]) (by kernel_rfl) (aK (decide_eq_true d)<|aK (decide_eq_true b) gD) (by kernel_rfl) (by kernel_rfl)
  ·intro h;obtain rfl:=cB h;exact aL (hs:=[.run 2,.dec true,.run 2,.dec false,.run 3,.dec true,.run 2,.dec false,.run 4,.dec false,.run 2]) (by kernel_rfl) (aK (eW (show ¬ (a=95) by omega))<|aK (decide_eq_false (show ¬ (a≤90) by omega))<|aK (decide_eq_true (show(a≥65) by omega))<|aK (decide_eq_false d)<|aK (decide_eq_true b) gD) (by kernel_rfl) (by kernel_rfl)
 ·have q9004:=aK (decide_eq_false b) gD
  refine bD (fun e=>?_) (fun e=>?_)
  ·have q9005:=aK (decide_eq_true e) q9004
   refine bD (fun c=>?_) (fun c=>?_)
   ·intro h;obtain rfl:=cB h;exact aL (hs:=[.run 2,.dec false,.run 4,.dec true,.run 2,.dec true,.run 5]) (by kernel_rfl) (aK (decide_eq_true c) q9005) (by kernel_rfl) (by kernel_rfl)
   ·refine bD (fun f=>?_) (fun f=>?_)
    ·intro h;obtain rfl:=cB h;exact aL (hs:=[.run 2,.dec false,.run 4,.dec true,.run 2,.dec false,.run 4,.dec true,.run 2]) (by kernel_rfl) (aK (gA f)<|aK (decide_eq_false c) q9005) (by kernel_rfl) (by kernel_rfl)
    ·intro h;obtain rfl:=cB h;exact aL (hs:=[.run 2,.dec false,.run 4,.dec true,.run 2,.dec false,.run 4,.dec false,.run 2]) (by kernel_rfl) (aK (eW f)<|aK (decide_eq_false c) q9005) (by kernel_rfl) (by kernel_rfl)
  ·intro h;obtain rfl:=cB h;exact aL (hs:=[.run 2,.dec false,.run 4,.dec false,.run 5,.dec false,.run 2]) (by kernel_rfl) (aK (eW (show ¬ (a=95) by omega))<|aK (decide_eq_false e) q9004) (by kernel_rfl) (by kernel_rfl)
noncomputable def uH (R:Nat)(a:Int):Option (Bool):=
 if(a≥48) then
  if(a≤57) then
   some true
  else
   some false
 else
  some false
theorem Bf {R:Nat}(n:Nat){c:Int}(d:St){r:Bool}(h:uH R c=some r):
 b7 (aR C0 rH R (n+1)) false 34 [(.int .u8 c)] d (.bool r) d:=by
 revert h;unfold uH;refine bD (fun a=>?_) (fun a=>?_)
 ·refine bD (fun b=>?_) (fun b=>?_)
  ·intro h;obtain rfl:=cB h;exact aL (hs:=[.run 2,.dec true,.run 2,.dec true,.run 2]) (by kernel_rfl) (aK (decide_eq_true b)<|aK (decide_eq_true a) gD) (by kernel_rfl) (by kernel_rfl)
  ·intro h;obtain rfl:=cB h;exact aL (hs:=[.run 2,.dec true,.run 2,.dec false,.run 2]) (by kernel_rfl) (aK (decide_eq_false b)<|aK (decide_eq_true a) gD) (by kernel_rfl) (by kernel_rfl)
 ·intro h;obtain rfl:=cB h;exact aL (hs:=[.run 2,.dec false,.run 3]) (by kernel_rfl) (aK (decide_eq_false a) gD) (by kernel_rfl) (by kernel_rfl)
noncomputable def yC (R:Nat)(a:Int):Option (Bool):=
 if(a=32) then
  some true
 else
  if(a=10) then
   some true
  else
   if(a=9) then
    some true
   else
    some false
theorem Ga {R : Nat} (n : Nat) {d : Int} (e : St) {r : Bool} (h : yC R d = some r):
 b7 (aR C0 rH R (n+1)) false 16 [(.int .u8 d)] e (.bool r) e:=by
 revert h;unfold yC;refine bD (fun a=>?_) (fun a=>?_)
 ·intro h;obtain rfl:=cB h;exact aL (hs:=[.run 2,.dec true,.run 5]) (by kernel_rfl) (aK (gA a) gD) (by kernel_rfl) (by kernel_rfl)
 ·refine bD (fun b=>?_) (fun b=>?_)
  ·intro h;obtain rfl:=cB h;exact aL (hs:=[.run 2,.dec false,.run 2,.dec true,.run 4]) (by kernel_rfl) (aK (gA b)<|aK (eW a) gD) (by kernel_rfl) (by kernel_rfl)
  ·refine bD (fun c=>?_) (fun c=>?_)
   ·intro h;obtain rfl:=cB h;exact aL (hs:=[.run 2,.dec false,.run 2,.dec false,.run 3,.dec true,.run 2]) (by kernel_rfl) (aK (gA c)<|aK (eW b)<|aK (eW a) gD) (by kernel_rfl) (by kernel_rfl)
   ·intro h;obtain rfl:=cB h;exact aL (hs:=[.run 2,.dec false,.run 2,.dec false,.run 3,.dec false,.run 2]) (by kernel_rfl) (aK (eW c)<|aK (eW b)<|aK (eW a) gD) (by kernel_rfl) (by kernel_rfl)
noncomputable def y5 (R:Nat)(a:Int):Option (Bool):=
 (rU R a).bind fun b=>
 if b=true then
  some true
 else
  (uH R a).bind fun c=>
  some c
theorem Ge {R:Nat}(n:Nat){c:Int}(a:St){r:Bool}(h:y5 R c=some r):
 b7 (aR C0 rH R (n+2)) false 46 [(.int .u8 c)] a (.bool r) a:=by
 revert h;unfold y5;refine aA fun g d=>?_;refine bD (fun b=>?_) (fun b=>?_)
 ·subst b;intro h;obtain rfl:=cB h;exact aL (hs:=[.run 2,.call (.bool true) a,.run 3]) (by kernel_rfl) (aK (wX n a d) gD) (by kernel_rfl) (by kernel_rfl)
 ·obtain rfl:=bF b;refine aA fun e f=>?_;intro h;obtain rfl:=cB h;exact aL (hs:=[.run 2,.call (.bool false) a,.run 2,.call (.bool e) a,.run 2]) (by kernel_rfl) (aK (Bf n a f)<|aK (wX n a d) gD) (by kernel_rfl) (by kernel_rfl)
noncomputable def mF (R:Nat)(a0:List UInt8):Option (List UInt8×Int):=(vH 2000000 a0 St.empty).map fun r=>(r.1,r.2.1)
noncomputable def sC (args:List AV):Option AV:=match args with
 | [.str a0]=>(mF 0 a0).map fun r=>(.tuple [(.str r.1),(.int .i64 r.2)])
 | _=>none
theorem FC:nN C0 rH (30,sC):=by
 intro args v h0
 have h:sC args=some v:=h0
 unfold sC at h
 split at h
 ·obtain⟨q0,h2,rfl⟩:=Option.map_eq_some_iff.1 h
  obtain⟨q,h1,rfl⟩:=Option.map_eq_some_iff.1 h2
  exact⟨rfl,rfl,2000000,0+1,_,FP 0 h1⟩
 ·cases h
noncomputable def pO (R:Nat)(a0:List UInt8):Option (List UInt8×Bool):=(yV 2000000 a0 St.empty).map fun r=>(r.1,r.2.1)
noncomputable def zH (args:List AV):Option AV:=match args with
 | [.str a0]=>(pO 0 a0).map fun r=>(.tuple [(.str r.1),(.bool r.2)])
 | _=>none
theorem Ih:nN C0 rH (31,zH):=by
 intro args v h0
 have h:zH args=some v:=h0
 unfold zH at h
 split at h
 ·obtain⟨q0,h2,rfl⟩:=Option.map_eq_some_iff.1 h
  obtain⟨q,h1,rfl⟩:=Option.map_eq_some_iff.1 h2
  exact⟨rfl,rfl,2000000,0+5,_,Im 0 h1⟩
 ·cases h
noncomputable def uY (R:Nat)(a0:List UInt8):Option (Bool):=(Br 2000000 a0 St.empty).map fun r=>r.1
noncomputable def z7 (args:List AV):Option AV:=match args with
 | [.str a0]=>(uY 0 a0).map fun r=>(.bool r)
 | _=>none
theorem IK:nN C0 rH (47,z7):=by
 intro args v h0
 have h:z7 args=some v:=h0
 unfold z7 at h
 split at h
 ·obtain⟨q0,h2,rfl⟩:=Option.map_eq_some_iff.1 h
  obtain⟨q,h1,rfl⟩:=Option.map_eq_some_iff.1 h2
  exact⟨rfl,rfl,2000000,0+3,_,Ie 0 h1⟩
 ·cases h
noncomputable def oI (R:Nat)(a0:List UInt8):Option (Bool):=(uQ 2000000 a0)
noncomputable def sD (args:List AV):Option AV:=match args with
 | [.str a0]=>(oI 0 a0).map fun r=>(.bool r)
 | _=>none
theorem FF:nN C0 rH (48,sD):=by
 intro args v h0
 have h:sD args=some v:=h0
 unfold sD at h
 split at h
 ·obtain⟨q,h1,rfl⟩:=Option.map_eq_some_iff.1 h
  exact⟨rfl,rfl,2000000,0+1,_,FJ 0 St.empty h1⟩
 ·cases h
noncomputable def oM (R:Nat)(a0:Int):Option (Bool):=(rU 2000000 a0)
noncomputable def sB (args:List AV):Option AV:=match args with
 | [.int .u8 a0]=>(oM 0 a0).map fun r=>(.bool r)
 | _=>none
theorem FT:nN C0 rH (32,sB):=by
 intro args v h0
 have h:sB args=some v:=h0
 unfold sB at h
 split at h
 ·obtain⟨q,h1,rfl⟩:=Option.map_eq_some_iff.1 h
  exact⟨rfl,rfl,2000000,0+1,_,wX 0 St.empty h1⟩
 ·cases h
noncomputable def nC (R:Nat)(a0:Int):Option (Bool):=(uH 2000000 a0)
noncomputable def uB (args:List AV):Option AV:=match args with
 | [.int .u8 a0]=>(nC 0 a0).map fun r=>(.bool r)
 | _=>none
theorem GG:nN C0 rH (34,uB):=by
 intro args v h0
 have h:uB args=some v:=h0
 unfold uB at h
 split at h
 ·obtain⟨q,h1,rfl⟩:=Option.map_eq_some_iff.1 h
  exact⟨rfl,rfl,2000000,0+1,_,Bf 0 St.empty h1⟩
 ·cases h
noncomputable def nD (R:Nat)(a0:Int):Option (Bool):=(yC 2000000 a0)
noncomputable def uA (args:List AV):Option AV:=match args with
 | [.int .u8 a0]=>(nD 0 a0).map fun r=>(.bool r)
 | _=>none
theorem Fy:nN C0 rH (16,uA):=by
 intro args v h0
 have h:uA args=some v:=h0
 unfold uA at h
 split at h
 ·obtain⟨q,h1,rfl⟩:=Option.map_eq_some_iff.1 h
  exact⟨rfl,rfl,2000000,0+1,_,Ga 0 St.empty h1⟩
 ·cases h
noncomputable def pV (R:Nat)(a0:Int):Option (Bool):=(y5 2000000 a0)
noncomputable def tT (args:List AV):Option AV:=match args with
 | [.int .u8 a0]=>(pV 0 a0).map fun r=>(.bool r)
 | _=>none
theorem GF:nN C0 rH (46,tT):=by
 intro args v h0
 have h:tT args=some v:=h0
 unfold tT at h
 split at h
 ·obtain⟨q,h1,rfl⟩:=Option.map_eq_some_iff.1 h
  exact⟨rfl,rfl,2000000,0+2,_,Ge 0 St.empty h1⟩
 ·cases h
noncomputable def qN:List (Nat×(List AV→Option AV)):=[(30,sC),(31,zH),(47,z7),(48,sD),(32,sB),(34,uB),(16,uA),(46,tT)]
noncomputable def uC:Ext:=wL (sG qN) rH
theorem JW:oX C0.P uC:=Dx F4 Jm HY Jm (by kernel_rfl) (.cons FC<|.cons Ih<|.cons IK<|.cons FF<|.cons FT<|.cons GG<|.cons Fy<|.cons GF<|.nil)
theorem B5 (R:Nat)(a0:List UInt8)(r:List UInt8×Int)(h:mF R a0=some r):uC 30 [.str a0]=some (.tuple [(.str r.1),(.int .i64 r.2)]):=
 mL ((by kernel_rfl:sG qN 30 [.str a0]=(mF R a0).map fun r=>(.tuple [(.str r.1),(.int .i64 r.2)])).trans (by rw[h]; rfl))
theorem DN (R:Nat)(a0:List UInt8)(r:List UInt8×Bool)(h:pO R a0=some r):uC 31 [.str a0]=some (.tuple [(.str r.1),(.bool r.2)]):=
 mL ((by kernel_rfl:sG qN 31 [.str a0]=(pO R a0).map fun r=>(.tuple [(.str r.1),(.bool r.2)])).trans (by rw[h]; rfl))
theorem DK (R:Nat)(a0:List UInt8)(r:Bool)(h:uY R a0=some r):uC 47 [.str a0]=some (.bool r):=
 mL ((by kernel_rfl:sG qN 47 [.str a0]=(uY R a0).map fun r=>(.bool r)).trans (by rw[h]; rfl))
theorem yA (R n:Nat)(a0:List UInt8)(st:St)(r:Bool)(h:uY R a0=some r):b7 (aR C0 uC R (n+1)) false 47 [.str a0] st (.bool r) st:=lE (DK R a0 r h) st
theorem BK (R:Nat)(a0:List UInt8)(r:Bool)(h:oI R a0=some r):uC 48 [.str a0]=some (.bool r):=
 mL ((by kernel_rfl:sG qN 48 [.str a0]=(oI R a0).map fun r=>(.bool r)).trans (by rw[h]; rfl))
theorem An (R n:Nat)(a0:List UInt8)(st:St)(r:Bool)(h:oI R a0=some r):b7 (aR C0 uC R (n+1)) false 48 [.str a0] st (.bool r) st:=lE (BK R a0 r h) st
theorem BA (R:Nat)(a0:Int)(r:Bool)(h:oM R a0=some r):uC 32 [.int .u8 a0]=some (.bool r):=
 mL ((by kernel_rfl:sG qN 32 [.int .u8 a0]=(oM R a0).map fun r=>(.bool r)).trans (by rw[h]; rfl))
theorem CN (R:Nat)(a0:Int)(r:Bool)(h:nC R a0=some r):uC 34 [.int .u8 a0]=some (.bool r):=
 mL ((by kernel_rfl:sG qN 34 [.int .u8 a0]=(nC R a0).map fun r=>(.bool r)).trans (by rw[h]; rfl))
theorem C4 (R:Nat)(a0:Int)(r:Bool)(h:nD R a0=some r):uC 16 [.int .u8 a0]=some (.bool r):=
 mL ((by kernel_rfl:sG qN 16 [.int .u8 a0]=(nD R a0).map fun r=>(.bool r)).trans (by rw[h]; rfl))
theorem CB (R:Nat)(a0:Int)(r:Bool)(h:pV R a0=some r):uC 46 [.int .u8 a0]=some (.bool r):=
 mL ((by kernel_rfl:sG qN 46 [.int .u8 a0]=(pV R a0).map fun r=>(.bool r)).trans (by rw[h]; rfl))
theorem BQ (R n:Nat)(a0:Int)(st:St)(r:Bool)(h:pV R a0=some r):b7 (aR C0 uC R (n+1)) false 46 [.int .u8 a0] st (.bool r) st:=lE (CB R a0 r h) st
end
end Go.Proofs.YthodfojhbbendaaDoor
end
section
set_option linter.all false
set_option maxRecDepth 100000
namespace Go.Proofs.YthodfojhbbendaaDoor
open Go Go.Ev
noncomputable section
instance QE:yU C0.P 75 1:=⟨⟨5,1,.int .u8 0,by kernel_rfl,by kernel_rfl,by kernel_rfl,by kernel_rfl,by omega,by omega,rfl,rfl⟩⟩
theorem wN {k m:Nat}(h:k+m≤9223372036854775807):IntKind.wrap .i64 ((k:Int)+(m:Int))=((k+m:Nat):Int):=by
 rw[wrap64 (by omega) (by omega)]; omega
theorem w1 {k:Nat}(h:k+1≤9223372036854775807):IntKind.wrap .i64 ((k:Int)+1)=((k+1:Nat):Int):=by
 rw[wrap64 (by omega) (by omega)]; omega
def jU : List UInt8 → Option (List UInt8 × Nat)
 | []=>none
 | c :: r => if c = 39 then (match r with
  | []=>some ([],1)
  | d :: r'=>if d=39 then(jU r').map fun p=>(39 :: p.1,p.2+2) else some ([],1))
   else(jU r).map fun p=>(c :: p.1,p.2+1)
theorem xZ {c:UInt8}(r:List UInt8)(h:¬ c=39):jU (c :: r)=(jU r).map fun p=>(c :: p.1,p.2+1):=by
 cases r <;> simp[jU,h]
theorem Nh (c:UInt8):((c.toNat:Int)=39)↔c=39:=by
 constructor
 ·intro h
  have:c.toNat=39:=by omega
  exact UInt8.toNat_inj.1 this
 ·rintro rfl; rfl
theorem yJ (l:List UInt8)(c:UInt8):mR l ++ (AV.int .u8 (c.toNat:Int)).cells=mR (l ++ [c]):=by simp[mR,AV.cells]
theorem drop_cons {s:List UInt8}{k:Nat}(h:k<s.length):s.drop k=s[k] :: s.drop (k+1):=List.drop_eq_getElem_cons h
theorem HT (R : Nat) (s : List UInt8) (hs : s.length ≤ 1000000) : ∀ (r k : Nat) (x : AV) (st : St) (acc : List UInt8), Sl st 1 x (mR acc) → k ≤ s.length → s.length - k < r → acc.length ≤ k →
 ∃ st', gB R s r x (k : Int) st = some (match jU (s.drop k) with
  | some (t,n)=>.inl (acc ++ t,((k+n:Nat):Int),st')
  | none=>.inr st'):=by
 intro r
 induction r with
 | zero=>intro k x st acc h1 h2 h3; omega
 | succ r ih =>
   intro k x st acc hx hk hr ha
   unfold gB
   by_cases hlt:k<s.length
   ·rw[if_pos (by omega),tY hlt,Option.bind_some,drop_cons hlt]
    have hb:(mR acc).length≤iT:=by simp[mR,iT]; omega
    by_cases hq:s[k]=39
    ·rw[if_pos ((Nh _).2 hq),w1 (by omega)]
     by_cases hlt2:k+1<s.length
     ·rw[if_pos (by omega),tY hlt2,Option.bind_some,drop_cons hlt2]
      by_cases hq2:s[k+1]=39
      ·rw[if_pos ((Nh _).2 hq2),w1 (by omega)]
       obtain⟨x',st',e,hS,hK,_⟩:=Nv (P:=C0.P) (t:=75) (v:=.int .u8 (s[k].toNat:Int)) (fun p=>gB R s r p.1 ((k+1+1:Nat):Int) p.2) hx rfl rfl hb (by omega)
       rw[yJ] at hS
       obtain⟨st2,h2⟩:=ih (k+2) x' st' (acc ++ [s[k]]) hS (by omega) (by omega) (by simp; omega)
       refine⟨st2,Eq.trans e (h2.trans ?_)⟩
       simp only[jU,hq,hq2,if_true]
       cases jU (List.drop (k+2) s) with
       | none=>rfl
       | some p=>simp; omega
      ·rw[if_neg (fun h=>hq2 ((Nh _).1 h)),He hx,Option.bind_some]
       exact⟨st,by simp[jU,hq,hq2]⟩
     ·rw[if_neg (by omega),He hx,Option.bind_some,List.drop_eq_nil_of_le (by omega)]
      exact⟨st,by simp[jU,hq]⟩
    ·rw[if_neg (fun h=>hq ((Nh _).1 h)),w1 (by omega)]
     obtain⟨x',st',e,hS,hK,_⟩:=Nv (P:=C0.P) (t:=75) (v:=.int .u8 (s[k].toNat:Int)) (fun p=>gB R s r p.1 ((k+1:Nat):Int) p.2) hx rfl rfl hb (by omega)
     rw[yJ] at hS
     obtain⟨st2,h2⟩:=ih (k+1) x' st' (acc ++ [s[k]]) hS (by omega) (by omega) (by simp; omega)
     refine⟨st2,Eq.trans e (h2.trans ?_)⟩
     rw[xZ _ hq]
     cases jU (List.drop (k+1) s) with
     | none=>rfl
     | some p=>simp; omega
   ·rw[if_neg (by omega),List.drop_eq_nil_of_le (by omega)]
    exact⟨st,by simp[jU]⟩
end
end Go.Proofs.YthodfojhbbendaaDoor
end
section
set_option linter.all false
set_option maxRecDepth 100000
namespace Go.Proofs.YthodfojhbbendaaDoor
open Go Go.Ev
noncomputable section
theorem Kl (R:Nat)(s:List UInt8)(st:St)(hs:s.length≤1000000)(h1:1≤s.length)(hR:s.length<R):
 ∃ st', vH R s st = some (match jU (s.drop 1) with
  | some (t,n)=>(t,((1+n:Nat):Int),st')
  | none=>([],0,st')):=by
 obtain⟨st',h⟩:=HT R s hs R 1 .aB st [] (Sl.nil st 1) h1 (by omega) (by simp)
 refine⟨st',?_⟩
 unfold vH
 rw[show((1:Int))=((1:Nat):Int) from rfl,h,Option.bind_some]
 cases jU (List.drop 1 s) with
 | none=>rfl
 | some p=>simp
def C5 (n:Nat):Nat:=if 48≤n∧n≤57 then n - 48 else if 97≤n∧n≤102 then n - 87 else 16
def unhex:List UInt8→Option (List UInt8)
 | []=>some []
 | [_]=>none
 | a :: b :: r=>if C5 a.toNat>15∨C5 b.toNat>15 then none else(unhex r).map fun l=>UInt8.ofNat (C5 a.toNat * 16+C5 b.toNat) :: l
theorem IV:∀ n:Fin 256,vK [48,49,50,51,52,53,54,55,56,57,97,98,99,100,101,102] n.1 0=if C5 n.1≤15 then((C5 n.1:Nat):Int) else -1:=by decide +kernel
theorem Fc (R:Nat)(c:UInt8):s5 R (c.toNat:Int)=some (if C5 c.toNat≤15 then((C5 c.toNat:Nat):Int) else -1):=by
 have hc:c.toNat<256:=c.toNat_lt
 have:=IV ⟨c.toNat,hc⟩
 unfold s5 o9 lS xIdx
 simp only[Option.bind_some,Int.toNat_natCast,Nat.mod_eq_of_lt hc]
 rw[this]
theorem My:∀ a b:Fin 16,IntKind.wrap .u8 (Pp .i64 (IntKind.wrap .i64 ((a.1:Int) * 2 ^ 4)) (b.1:Int))=((a.1 * 16+b.1:Nat):Int):=by decide +kernel
theorem OK {a b:Nat}(ha:a≤15)(hb:b≤15):IntKind.wrap .u8 (Pp .i64 (IntKind.wrap .i64 ((a:Int) * 2 ^ 4)) (b:Int))=(((UInt8.ofNat (a * 16+b)).toNat:Nat):Int):=by
 rw[My ⟨a,by omega⟩ ⟨b,by omega⟩]
 simp only[UInt8.toNat_ofNat']
 rw[Nat.mod_eq_of_lt (by omega)]
theorem MP {s:List UInt8}{k:Nat}(h:k+1<s.length):s.drop k=s[k] :: s[k+1] :: s.drop (k+2):=by
 rw[drop_cons (by omega:k<s.length),drop_cons h]
theorem CZ:∀(l t:List UInt8),unhex l=some t→l.length=2 * t.length
 | [],t,h=>by cases h; rfl
 | [_],t,h=>by cases h
 | a :: b :: r, t, h => by
   simp only[unhex] at h
   split at h
   ·cases h
   ·obtain⟨u,h1,rfl⟩:=Option.map_eq_some_iff.1 h
    have:=CZ r u h1
    simp; omega
theorem LH (R : Nat) (s : List UInt8) (hs : s.length ≤ 1000000) (room : Nat) (hroom : room = s.length / 2) : ∀ (r k : Nat) (x : AV) (st : St) (acc : List UInt8), Sr st 1 x room (mR acc) → k ≤ s.length → s.length - k < r → k = 2 * acc.length →
 ∃ st', (∀ t, unhex (s.drop k) = some t → ∃ x', iW R s r x (k : Int) st = some (.inr (x', st')) ∧ Sr st' 1 x' room (mR (acc ++ t))) ∧
  (unhex (s.drop k)=none→iW R s r x (k:Int) st=some (.inl ([],false,st'))∨(s.length % 2=1∧ ∃ x' t,iW R s r x (k:Int) st=some (.inr (x',st'))∧Sr st' 1 x' room (mR t))):=by
 intro r
 induction r with
 | zero=>intro k x st acc h1 h2 h3; omega
 | succ r ih =>
   intro k x st acc hx hk hr ha
   unfold iW
   rw[w1 (by omega)]
   by_cases hlt:k+1<s.length
   ·rw[if_pos (by omega),tY (by omega:k<s.length),Option.bind_some,tY hlt,Option.bind_some,Fc,Option.bind_some,Fc,Option.bind_some,MP hlt]
    by_cases h1:C5 s[k].toNat≤15
    ·rw[if_pos h1,if_neg (by omega)]
     by_cases h2:C5 s[k+1].toNat≤15
     ·rw[if_pos h2,if_neg (by omega),OK h1 h2,show((k:Int)+2)=(k:Int)+((2:Nat):Int) from rfl,wN (by omega)]
      have hu:unhex (s[k] :: s[k+1] :: s.drop (k+2))=(unhex (s.drop (k+2))).map fun l=>UInt8.ofNat (C5 s[k].toNat * 16+C5 s[k+1].toNat) :: l:=by
            rw[unhex,if_neg (by omega)]
      rw[hu]
      generalize UInt8.ofNat (C5 s[k].toNat * 16+C5 s[k+1].toNat)=v
      obtain⟨x',st',e,hS⟩:=OI (P:=C0.P) (t:=75) (v:=.int .u8 (v.toNat:Int)) (fun p=>iW R s r p.1 ((k+2:Nat):Int) p.2) hx rfl rfl (by simp[mR]; omega) (by simp[iT]; omega) (by omega)
      rw[yJ] at hS
      obtain⟨st2,h3,h4⟩:=ih (k+2) x' st' (acc ++ [v]) hS (by omega) (by omega) (by simp; omega)
      refine⟨st2,fun t ht=>?_,fun hn=>?_⟩
      ·obtain⟨u,h5,rfl⟩:=Option.map_eq_some_iff.1 ht
       obtain⟨x2,h6,h7⟩:=h3 u h5
       exact⟨x2,Eq.trans e h6,by simpa using h7⟩
      ·rw[Option.map_eq_none_iff] at hn
       rcases h4 hn with h5 | ⟨h5,x2,t,h6,h7⟩
       ·exact .inl (Eq.trans e h5)
       ·exact .inr ⟨h5,x2,t,Eq.trans e h6,h7⟩
     ·rw[if_neg h2,if_pos (by omega)]
      refine⟨st,fun t ht=>?_,fun _=>.inl rfl⟩
      rw[unhex,if_pos (by omega)] at ht
      cases ht
    ·rw[if_neg h1,if_pos (by omega)]
     refine⟨st,fun t ht=>?_,fun _=>.inl rfl⟩
     rw[unhex,if_pos (by omega)] at ht
     cases ht
   ·rw[if_neg (by omega)]
    refine⟨st,fun t ht=>⟨x,rfl,?_⟩,fun hn=>.inr ⟨?_,x,acc,rfl,hx⟩⟩
    ·rcases Nat.lt_or_ge k s.length with h | h
     ·rw[drop_cons h,List.drop_eq_nil_of_le (by omega)] at ht
      cases ht
     ·rw[List.drop_eq_nil_of_le h] at ht
      cases ht
      simpa using hx
    ·rcases Nat.lt_or_ge k s.length with h | h
     ·omega
     ·rw[List.drop_eq_nil_of_le h] at hn
      cases hn
theorem L6 (R : Nat) (s : List UInt8) (st : St) (hs : s.length ≤ 1000000) (hR : s.length < R) :
 ∃ st',(∀ t,unhex s=some t→yV R s st=some (t,true,st'))∧(unhex s=none→ ∃ t,yV R s st=some (t,false,st')):=by
 have e0:IntKind.wrap .i64 (Int.tdiv (List.length s:Int) 2)=((s.length / 2:Nat):Int):=by
  rw[Int.tdiv_eq_ediv_of_nonneg (by omega),wrap64 (by omega) (by omega)]; omega
 have em:Int.tmod (List.length s:Int) 2=((s.length % 2:Nat):Int):=by
  rw[Int.tmod_eq_emod_of_nonneg (by omega)]; omega
 obtain⟨x,st1,h1,h2,_⟩:=NW (P:=C0.P) (t:=75) (k:=.i64) (k':=.i64) (c:=s.length / 2) st (by simp[iT]; omega)
 obtain⟨st2,h3,h4⟩:=LH R s hs (s.length / 2) rfl R 0 x st1 [] h2 (by omega) (by omega) rfl
 refine⟨st2,fun t ht=>?_,fun hn=>?_⟩
 ·obtain⟨x',h5,h6⟩:=h3 t (by simpa using ht)
  unfold yV
  rw[e0,h1,Option.bind_some]
  simp only
  rw[show(0:Int)=((0:Nat):Int) from rfl,h5,Option.bind_some]
  simp only
  rw[HD h6 (sE _),Option.bind_some,em,if_pos (by have:=CZ s t ht; omega)]
  rfl
 ·unfold yV
  rw[e0,h1,Option.bind_some]
  simp only
  rcases h4 (by simpa using hn) with h5 | ⟨h5,x',t,h6,h7⟩
  ·exact⟨[],by rw[show(0:Int)=((0:Nat):Int) from rfl,h5,Option.bind_some]⟩
  ·exact⟨t,by
    rw[show(0:Int)=((0:Nat):Int) from rfl,h6,Option.bind_some]
    simp only
    rw[HD h7 (sE _),Option.bind_some,em,if_neg (by omega)]⟩
end
end Go.Proofs.YthodfojhbbendaaDoor
end
section
set_option linter.all false
set_option maxRecDepth 100000
namespace Go.Proofs.YthodfojhbbendaaDoor
open Go Go.Ev
noncomputable section
instance Q5:yU C0.P 22 1:=⟨⟨9,16,.str [],by kernel_rfl,by kernel_rfl,by kernel_rfl,by kernel_rfl,by omega,by omega,rfl,rfl⟩⟩
instance QK:pI C0.P 9 false 1:=⟨by kernel_rfl,by kernel_rfl⟩
def keys:List (List UInt8):=[[65,78,68],[66,89],[67,79,85,78,84],[67,82,69,65,84,69],[68,69,76,69,84,69],[68,69,83,67],[70,65,76,83,69],[70,82,79,77],[72,73,83,84,79,82,89],[73,78,68,69,88],[73,78,83,69,82,84],[73,78,84,79],[73,83],[76,73,77,73,84],[78,79,84],[78,85,76,76],[79,78],[79,82],[79,82,68,69,82],[83,69,76,69,67,84],[83,69,84],[84,65,66,76,69],[84,82,85,69],[85,80,68,65,84,69],[86,65,76,85,69],[87,72,69,82,69]]
def isKey (s:List UInt8):Bool:=keys.any fun w=>decide (w=s)
theorem Fv {s:List UInt8}:isKey s=true↔s ∈ keys:=by
 simp only[isKey,List.any_eq_true,decide_eq_true_eq]
 constructor
 ·rintro⟨w,h,rfl⟩; exact h
 ·exact fun h=>⟨s,h,rfl⟩
theorem H5 {P:Program}{t t':TypeId}[yU P t 1][pI P t' false 1]{st:St}{x:AV}{ks:List (List UInt8)}{kd:IntKind}{i:Nat}{α:Type}(k:List UInt8→Option α)(h:Sl st 1 x (ks.map AV.str))(hi:i<ks.length):
 ((cV P t x (.int kd (i:Int))).bind fun p=>(loadAt P st t' p).bind fun v=>(iZ v).bind k)=k ks[i]:=by
 rw[Mo (P:=P) (t:=t) (k:=kd) h (by simpa using hi),Option.bind_some,Nat.mul_one]
 have e:(ks.map AV.str).drop i=.str ks[i] :: (ks.map AV.str).drop (i+1):=by
  rw[List.drop_eq_getElem_cons (by simpa using hi)]
  simp
 rw[e,Dl]
 rfl
theorem JG (R : Nat) (s : List UInt8) (ks : List (List UInt8)) (x : AV) (st : St) (hx : Sl st 1 x (ks.map AV.str)) (hl : ks.length ≤ 1000000) : ∀ (r k : Nat), k ≤ ks.length → ks.length - k < r →
 (s ∈ ks.drop k∧ ∃ i:Nat,bS R x s (ks.length:Int) r (k:Int) st=some (.inl ((i:Int),st))) ∨
 (s ∉ ks.drop k∧bS R x s (ks.length:Int) r (k:Int) st=some (.inr st)):=by
 intro r
 induction r with
 | zero=>intro k h1 h2; omega
 | succ r ih =>
   intro k h1 h2
   unfold bS
   by_cases hlt:k<ks.length
   ·rw[if_pos (by omega)]
    rw[show(Option.bind (cV C0.P 22 x (.int .i64 (k:Int))) _:Option ((Int×St) ⊕ St))=_ from H5 (P:=C0.P) (t:=22) (t':=9) (kd:=.i64) (fun w=>if s=w then some (.inl ((k:Int),st)) else bS R x s (ks.length:Int) r (IntKind.wrap .i64 ((k:Int)+1)) st) hx hlt]
    rw[List.drop_eq_getElem_cons hlt]
    by_cases e:s=ks[k]
    ·rw[if_pos e]
     exact .inl ⟨by rw[e]; exact List.mem_cons_self,k,rfl⟩
    ·rw[if_neg e,w1 (by omega)]
     rcases ih (k+1) hlt (by omega) with⟨h3,i,h4⟩ | ⟨h3,h4⟩
     ·exact .inl ⟨List.mem_cons_of_mem _ h3,i,h4⟩
     ·exact .inr ⟨fun h=>(List.mem_cons.1 h).elim e h3,h4⟩
   ·rw[if_neg (by omega),List.drop_eq_nil_of_le (by omega)]
    exact .inr ⟨by simp,rfl⟩
theorem MR (st:St):Sl (st.push (.oE 26)) 1 (.sl st.next 26 26 1 (some 26) (keys.map AV.str)) (keys.map AV.str):=
 .inr ⟨_,_,_,_,rfl,rfl,Nat.lt_succ_self _,.inl rfl⟩
theorem OG (R:Nat)(s:List UInt8)(st:St)(hR:26<R):∃ st',Br R s st=some (isKey s,st'):=by
 have e:∀ st,eK (aU C0.P (C0.bU 47) 22 26 ([(0,(.str [65,78,68])),(1,(.str [66,89])),(2,(.str [67,79,85,78,84])),(3,(.str [67,82,69,65,84,69])),(4,(.str [68,69,76,69,84,69])),(5,(.str [68,69,83,67])),(6,(.str [70,65,76,83,69])),(7,(.str [70,82,79,77])),(8,(.str [72,73,83,84,79,82,89])),(9,(.str [73,78,68,69,88])),(10,(.str [73,78,83,69,82,84])),(11,(.str [73,78,84,79])),(12,(.str [73,83])),(13,(.str [76,73,77,73,84])),(14,(.str [78,79,84])),(15,(.str [78,85,76,76])),(16,(.str [79,78])),(17,(.str [79,82])),(18,(.str [79,82,68,69,82])),(19,(.str [83,69,76,69,67,84])),(20,(.str [83,69,84])),(21,(.str [84,65,66,76,69])),(22,(.str [84,82,85,69])),(23,(.str [85,80,68,65,84,69])),(24,(.str [86,65,76,85,69])),(25,(.str [87,72,69,82,69]))])) st=some (.sl st.next 26 26 1 (some 26) (keys.map AV.str),st.push (.oE 26)):=fun st=>by kernel_rfl
 unfold Br gC iA
 rw[e,Option.bind_some]
 simp only[lenOf,Option.bind_some]
 rcases JG R s keys _ _ (MR st) (by decide) R 0 (by omega) (by simpa[keys] using hR) with⟨h1,i,h2⟩ | ⟨h1,h2⟩
 ·have h2':bS R (.sl st.next 26 26 1 (some 26) (keys.map AV.str)) s ((26:Nat):Int) R 0 (st.push (.oE 26))=_:=h2
  rw[h2',(Fv).2 (by simpa using h1)]
  simp only[Option.bind_some]
  rw[if_pos (by omega)]
  exact⟨_,rfl⟩
 ·have h2':bS R (.sl st.next 26 26 1 (some 26) (keys.map AV.str)) s ((26:Nat):Int) R 0 (st.push (.oE 26))=_:=h2
  have h3:isKey s=false:=by
   cases h:isKey s with
   | false=>rfl
   | true=>exact absurd (Fv.1 h) (by simpa using h1)
  rw[h2',h3]
  simp only[Option.bind_some]
  rw[if_neg (by omega)]
  exact⟨_,rfl⟩
end
end Go.Proofs.YthodfojhbbendaaDoor
end
section
set_option linter.all false
set_option maxRecDepth 100000
namespace Go.Proofs.YthodfojhbbendaaDoor
open Go Go.Ev
noncomputable section
def Jf (n:Nat):Bool:=(97≤n && n≤122) || (65≤n && n≤90) || n == 95
def wW (n:Nat):Bool:=48≤n && n≤57
def oS (n:Nat):Bool:=n == 32 || n == 10 || n == 9
def p7 (n:Nat):Bool:=Jf n || wW n
theorem IW:∀ n:Fin 256,rU 0 (n.1:Int)=some (Jf n.1):=by decide +kernel
theorem Kd:∀ n:Fin 256,uH 0 (n.1:Int)=some (wW n.1):=by decide +kernel
theorem Kf:∀ n:Fin 256,yC 0 (n.1:Int)=some (oS n.1):=by decide +kernel
theorem Km:∀ n:Fin 256,y5 0 (n.1:Int)=some (p7 n.1):=by decide +kernel
theorem Kt (R:Nat)(c:UInt8):rU R (c.toNat:Int)=some (Jf c.toNat):=IW ⟨c.toNat,c.toNat_lt⟩
theorem L3 (R:Nat)(c:UInt8):uH R (c.toNat:Int)=some (wW c.toNat):=Kd ⟨c.toNat,c.toNat_lt⟩
theorem MI (R:Nat)(c:UInt8):yC R (c.toNat:Int)=some (oS c.toNat):=Kf ⟨c.toNat,c.toNat_lt⟩
theorem LX (R:Nat)(c:UInt8):y5 R (c.toNat:Int)=some (p7 c.toNat):=Km ⟨c.toNat,c.toNat_lt⟩
def eU (p:Nat→Bool)(s:List UInt8)(k:Nat):Nat:=((s.drop k).takeWhile fun c=>p c.toNat).length
theorem mE (p:Nat→Bool)(s:List UInt8)(k:Nat)(h:k≤s.length):k+eU p s k≤s.length:=by
 have h1:((s.drop k).takeWhile fun c=>p c.toNat).length≤(s.drop k).length:=List.Sublist.length_le (List.takeWhile_sublist _)
 rw[List.length_drop] at h1
 unfold eU
 omega
theorem Ab {p:Nat→Bool}{s:List UInt8}{k:Nat}(h:k<s.length)(hp:p s[k].toNat=true):eU p s k=1+eU p s (k+1):=by
 unfold eU
 rw[drop_cons h,List.takeWhile_cons_of_pos (p:=fun c:UInt8=>p c.toNat) hp,List.length_cons,Nat.add_comm]
theorem HU {p:Nat→Bool}{s:List UInt8}{k:Nat}(h:k<s.length)(hp:¬ p s[k].toNat=true):eU p s k=0:=by
 unfold eU
 rw[drop_cons h,List.takeWhile_cons_of_neg (p:=fun c:UInt8=>p c.toNat) hp]; rfl
theorem Fw {p:Nat→Bool}{s:List UInt8}{k:Nat}(h:s.length≤k):eU p s k=0:=by
 unfold eU
 rw[List.drop_eq_nil_of_le h]; rfl
def Lz (pm : Int → Option Bool) (s : List UInt8) : Nat → Int → Option Int
 | 0,_=>none
 | r + 1, i => if i < (List.length s : Int) then
  Option.bind (Al s i) fun c=>Option.bind (pm c) fun b=>if b=true then Lz pm s r (IntKind.wrap .i64 (i+1)) else some i
   else some i
theorem Mv {pm:Int→Option Bool}{p:Nat→Bool}(hpm:∀ c:UInt8,pm (c.toNat:Int)=some (p c.toNat))(s:List UInt8)(hs:s.length≤1000000):∀(r k:Nat),k≤s.length→s.length - k<r→Lz pm s r (k:Int)=some ((k+eU p s k:Nat):Int):=by
 intro r
 induction r with
 | zero=>intro k h1 h2; omega
 | succ r ih =>
   intro k h1 h2
   unfold Lz
   by_cases hlt:k<s.length
   ·rw[if_pos (by omega),tY hlt,Option.bind_some,hpm,Option.bind_some]
    by_cases hp:p s[k].toNat=true
    ·rw[if_pos hp,w1 (by omega),ih (k+1) hlt (by omega),Ab hlt hp,Nat.add_assoc]
    ·rw[if_neg hp,HU hlt hp]; rfl
   ·rw[if_neg (by omega),Fw (by omega)]; rfl
theorem KZ (R : Nat) (s : List UInt8) (hs : s.length ≤ 1000000) (hw : ∀ c ∈ s, p7 c.toNat = true) (h0 : ∀ (h : 0 < s.length), Jf s[0].toNat = true) : ∀ (r k : Nat), k ≤ s.length → s.length - k < r →
 gX R s (s.length:Int) r (k:Int)=some (.inr ()):=by
 intro r
 induction r with
 | zero=>intro k h1 h2; omega
 | succ r ih =>
   intro k h1 h2
   unfold gX
   by_cases hlt:k<s.length
   ·rw[if_pos (by omega),tY hlt,Option.bind_some,w1 (by omega),ih (k+1) hlt (by omega)]
    have hwk:=hw s[k] (List.getElem_mem hlt)
    have h0':k=0→Jf s[k].toNat=true:=by rintro rfl; exact h0 hlt
    simp only[p7,Jf,wW,Bool.or_eq_true,Bool.and_eq_true,decide_eq_true_eq,beq_iff_eq] at hwk h0'
    split
    ·split
     ·rfl
     ·omega
    ·split
     ·split
      ·rfl
      ·split
       ·rfl
       ·split <;> omega
     ·split
      ·omega
      ·split
       ·omega
       ·split
        ·omega
        ·rfl
   ·rw[if_neg (by omega)]
theorem Mn (R:Nat)(s:List UInt8)(hs:s.length≤1000000)(hR:s.length<R)(hw:∀ c ∈ s,p7 c.toNat=true)(h0:∀(h:0<s.length),Jf s[0].toNat=true)(h1:0<s.length):uQ R s=some (decide (s.length≤16)):=by
 unfold uQ
 rw[show(0:Int)=((0:Nat):Int) from rfl,KZ R s hs hw h0 R 0 (by omega) (by omega),Option.bind_some]
 simp only
 rw[if_pos (by omega)]
 by_cases h:s.length≤16
 ·rw[if_pos (by omega),decide_eq_true h]
 ·rw[if_neg (by omega),decide_eq_false h]
def zL:List UInt8:=[57,50,50,51,51,55,50,48,51,54,56,53,52,55,55,53,56,48,55]
def Em (s:List UInt8):Bool:=!(decide (1<s.length) && s.head? == some 48) && decide (s.length≤19) && (decide (s.length<19) || (strLt s zL || kG s zL))
theorem Pz (c:UInt8):((c.toNat:Int)=48)↔c=48:=by
 constructor
 ·intro h
  have:c.toNat=48:=by omega
  exact UInt8.toNat_inj.1 this
 ·rintro rfl; rfl
end
end Go.Proofs.YthodfojhbbendaaDoor
end
section
set_option linter.all false
set_option maxRecDepth 100000
namespace Go.Proofs.YthodfojhbbendaaDoor
open Go Go.Ev
noncomputable section
noncomputable def cD (v:AV):Option (Int×List UInt8×Int):=match v with
 | .agg [.int .i64 a0,.str a1,.int .i64 a2]=>some (a0,a1,a2)
 | _=>none
theorem bT {v:AV}{a0:Int}{a1:List UInt8}{a2:Int}(h:cD v=some (a0,a1,a2)):v=.agg [.int .i64 a0,.str a1,.int .i64 a2]:=by
 unfold cD at h
 split at h
 ·cases h; rfl
 ·cases h
noncomputable def iV (R:Nat)(a:List UInt8)(b:Int):Option (Bool):=
 if(b<(List.length a:Int)) then
  (Al a b).bind fun c=>
  (pV R c).bind fun d=>
  some d
 else
  some false
theorem n8 {R:Nat}(n:Nat){c:List UInt8}{d:Int}(a:St){r:Bool}(h:iV R c d=some r):
 cM 25 (bN C0 (aR C0 uC R (n+1)) 15 R none (aQ C0.P 15 [1,1,0,0,0,0,0])) (bG (aQ C0.P 15 [1,1,0,0,0,0,0])) [(0,(.str c)),(2,(.func (.func 46) [] [])),(7,(.int .i64 d))] a .normal [(19,.bool r)] a:=by
 revert h;unfold iV;refine bD (fun b=>?_) (fun b=>?_)
 ·refine aA fun e f=>?_;refine aA fun g i=>?_;intro h;obtain rfl:=cB h;exact aO (hs:=[.run 3,.dec true,.run 4,.val (.int .u8 e),.call (.bool g) a,.run 1]) (want:=[19]) (by kernel_rfl) (aK (BQ R n e a _ i)<|aK (iL (k:=.i64) (P:=C0.P) (t:=9) (by kernel_rfl) f)<|aK (decide_eq_true b) gD)
 ·intro h;obtain rfl:=cB h;exact aO (hs:=[.run 3,.dec false,.run 2]) (want:=[19]) (by kernel_rfl) (aK (decide_eq_false b) gD)
noncomputable def gH (R:Nat)(b:List UInt8)(c:Int):Nat→Int→Option ((Int))
 | 0,_=>none
 | r + 1, a =>
   (iV R b a).bind fun d=>
   if d=true then
    gH R b c r (IntKind.wrap .i64 (a+1))
   else
    some a
noncomputable def lZ (st:St)(o:(Int)):cZ×List (Nat×AV)×St:=match o with
 | a0=>((.exit 0),[(7,.int .i64 a0)],st)
theorem vI (R n:Nat)(d:List UInt8)(e:Int)(a:St):∀(r:Nat) (b:Int) (o:(Int)),gH R d e r b=some o →
 cM 25 (lO (fun fr k=>bN C0 (aR C0 uC R (n+1)) 15 R none (aQ C0.P 15 [1,1,0,0,0]) fr k) r) (bG (aQ C0.P 15 [1,1,0,0,0])) [(0,(.str d)),(1,(.int .i64 e)),(2,(.func (.func 46) [] [])),(7,(.int .i64 b))] a (lZ a o).1 (lZ a o).2.1 (lZ a o).2.2:=by
 intro r
 induction r with
 | zero=>intro b o h; exact nomatch h
 | succ r ih =>
   intro b o
   unfold gH;refine aA fun g f=>?_;refine bD (fun c=>?_) (fun c=>?_)
   ·subst c;intro h;exact dP (aO (hs:=[.zX [0,2,7] .normal [(19,(.bool true))] a,.aJ,.aJ,.run 3]) (want:=[0,1,2,7]) (by kernel_rfl) (.cons (n8 n a f) .nil)) (ih (IntKind.wrap .i64 (b+1)) _ h)
   ·obtain rfl:=bF c;intro h;obtain rfl:=cB h;exact cF (aO (hs:=[.zX [0,2,7] .normal [(19,(.bool false))] a,.aJ]) (want:=[7]) (by kernel_rfl) (.cons (n8 n a f) .nil)) (by kernel_rfl)
noncomputable def kV (R:Nat)(a:List UInt8)(b:Int)(c:Int):Option (Int):=
 (gH R a b R c).bind fun d=>
 some d
theorem vQ {R:Nat}(n:Nat){b:List UInt8}{c:Int}{d:Int}(a:St){r:Int}(h:kV R b c d=some r):
 cM 25 (bN C0 (aR C0 uC R (n+1)) 15 R none (aQ C0.P 15 [1,1,0])) (bG (aQ C0.P 15 [1,1,0])) [(0,(.str b)),(1,(.int .i64 c)),(2,(.func (.func 46) [] [])),(7,(.int .i64 d))] a .normal [(7,.int .i64 r)] a:=by
 revert h;unfold kV;refine aA fun e f=>?_;intro h;obtain rfl:=cB h;exact aO (hs:=[.aJ,.abs [0,1,2,7] (.exit 0) [(7,(.int .i64 e))] a]) (want:=[7]) (by kernel_rfl) (aK (cW (vI R n b c a R d _ f)) gD)
noncomputable def mI (R:Nat)(b:List UInt8)(a:Int):Option (Int):=
 (kV R b a a).bind fun c=>
 some (IntKind.wrap .i64 (c - a))
theorem AD {R:Nat}(n:Nat){b:List UInt8}{c:Int}(a:St){r:Int}(h:mI R b c=some r):
 b7 (aR C0 uC R (n+2)) false 15 [(.str b),(.int .i64 c),(.func (.func 46) [] [])] a (.int .i64 r) a:=by
 revert h;unfold mI;refine aA fun d e=>?_;intro h;obtain rfl:=cB h;exact aL (hs:=[.run 3,.rX [0,1,2,7] .normal [(7,(.int .i64 d))] a,.run 4]) (by kernel_rfl) (aK (vQ n a e) gD) (by kernel_rfl) (by kernel_rfl)
noncomputable def Ac (R:Nat)(s2:List UInt8)(i3:Int)(st4:St):Option (Int×List UInt8×Int×Int×St):=
 (mI R s2 i3).bind fun b=>
 (Am s2 i3 (IntKind.wrap .i64 (i3+b))).bind fun h=>
 (storeAt C0.P (St.push (St.push st4 (.cells 26 true [(.int .i64 0),(.str []),(.int .i64 0)])) (.cells 26 true [(.int .i64 0),(.str []),(.int .i64 0)])) 26 (.ref (St.next (St.push st4 (.cells 26 true [(.int .i64 0),(.str []),(.int .i64 0)]))) 0) (.agg [(.int .i64 1),(.str h),(.int .i64 i3)])).bind fun a=>
 (loadAt C0.P a 9 (.ref (St.next (St.push st4 (.cells 26 true [(.int .i64 0),(.str []),(.int .i64 0)]))) 1)).bind fun i=>
 (iZ i).bind fun c=>
 (uY R c).bind fun j=>
 if j=true then
  (storeAt C0.P a 3 (.ref (St.next (St.push st4 (.cells 26 true [(.int .i64 0),(.str []),(.int .i64 0)]))) 0) (.int .i64 2)).bind fun d=>
  (loadAt C0.P d 26 (.ref (St.next (St.push st4 (.cells 26 true [(.int .i64 0),(.str []),(.int .i64 0)]))) 0)).bind fun k=>
  (cD k).bind fun(l,m,n)=>
  (storeAt C0.P d 26 (.ref (St.next st4) 0) (.agg [(.int .i64 l),(.str m),(.int .i64 n)])).bind fun e=>
  (loadAt C0.P e 26 (.ref (St.next st4) 0)).bind fun o=>
  (cD o).bind fun(p,q,r)=>
  some (p,q,r,b,e)
 else
  (oI R c).bind fun s=>
  if s=true then
   (loadAt C0.P a 26 (.ref (St.next (St.push st4 (.cells 26 true [(.int .i64 0),(.str []),(.int .i64 0)]))) 0)).bind fun t=>
   (cD t).bind fun(u,v,w)=>
   (storeAt C0.P a 26 (.ref (St.next st4) 0) (.agg [(.int .i64 u),(.str v),(.int .i64 w)])).bind fun f=>
   (loadAt C0.P f 26 (.ref (St.next st4) 0)).bind fun x=>
   (cD x).bind fun(y,z,A)=>
   some (y,z,A,b,f)
  else
   (loadAt C0.P a 26 (.ref (St.next (St.push st4 (.cells 26 true [(.int .i64 0),(.str []),(.int .i64 0)]))) 0)).bind fun B=>
   (cD B).bind fun(C,D,E)=>
   (storeAt C0.P a 26 (.ref (St.next st4) 0) (.agg [(.int .i64 C),(.str D),(.int .i64 E)])).bind fun g=>
   (loadAt C0.P g 26 (.ref (St.next st4) 0)).bind fun F=>
   (cD F).bind fun(G,H,I)=>
   some (G,H,I,0,g)
theorem GH {R:Nat}(n:Nat){s2:List UInt8}{i3:Int}{st4:St}{r:Int×List UInt8×Int×Int×St}(h:Ac R s2 i3 st4=some r):
 b7 (aR C0 uC R (n+3)) false 33 [(.str s2),(.int .i64 i3)] st4 (.tuple [(.agg [.int .i64 r.1,.str r.2.1,.int .i64 r.2.2.1]),(.int .i64 r.2.2.2.1)]) r.2.2.2.2:=by
 revert h;unfold Ac;refine aA fun c m=>?_;refine aA fun d i=>?_;refine aA fun a j=>?_;refine aA fun a7 e=>?_;refine aA fun b p=>?_;obtain rfl:=dY p;refine aA fun a8 l=>?_;have q9001:=aK (AD n (St.push st4 (.cells 26 true kZ)) m) gD
 refine bD (fun f=>?_) (fun f=>?_)
 ·subst f;refine aA fun q s=>?_;refine aA fun a9 u=>?_;refine aA fun o v=>?_;obtain⟨w,x,y⟩:=o;obtain rfl:=bT v;refine aA fun z A=>?_;refine aA fun b0 B=>?_;refine aA fun o C=>?_;obtain⟨D,E,F⟩:=o;obtain rfl:=bT C;intro h;obtain rfl:=cB h;exact aL (hs:=[.run 4,.call (.int .i64 c) (St.push st4 (.cells 26 true kZ)),.run 6,.val (.str d),.run 3,.bM AV.undef a,.aJ,.run 1,.val (.str b),.call (.bool true) a,.run 1,.aJ,.run 1,.bM AV.undef q,.val (eZ w x y),.run 1,.bM AV.undef z,.run 1,.val (eZ D E F)]) (by kernel_rfl) (aK B<|aK (aP A)<|aK u<|aK (aP s)<|aK (yA R (n+1) b a _ l)<|aK e<|aK (aP j)<|aK (HG (k:=.i64) (k':=.i64) (P:=C0.P) (t:=9) (by kernel_rfl) i) q9001) (by kernel_rfl) (by kernel_rfl)
 ·obtain rfl:=bF f;refine aA fun b1 G=>?_;have q9002:=aK (An R (n+1) b a _ G)<|aK e<|aK (yA R (n+1) b a _ l)<|aK e<|aK (aP j)<|aK (HG (k:=.i64) (k':=.i64) (P:=C0.P) (t:=9) (by kernel_rfl) i) q9001
  refine bD (fun g=>?_) (fun g=>?_)
  ·subst g;refine aA fun b2 H=>?_;refine aA fun o I=>?_;obtain⟨J,K,L⟩:=o;obtain rfl:=bT I;refine aA fun M N=>?_;refine aA fun b3 O=>?_;refine aA fun o Q=>?_;obtain⟨S,T,U⟩:=o;obtain rfl:=bT Q;intro h;obtain rfl:=cB h;exact aL (hs:=[.run 4,.call (.int .i64 c) (St.push st4 (.cells 26 true kZ)),.run 6,.val (.str d),.run 3,.bM AV.undef a,.aJ,.run 1,.val (.str b),.call (.bool false) a,.run 1,.aJ,.run 1,.val (.str b),.call (.bool true) a,.run 2,.aJ,.val (eZ J K L),.run 1,.bM AV.undef M,.run 1,.val (eZ S T U)]) (by kernel_rfl) (aK O<|aK (aP N)<|aK H q9002) (by kernel_rfl) (by kernel_rfl)
  ·obtain rfl:=bF g;refine aA fun b4 V=>?_;refine aA fun o W=>?_;obtain⟨X,Y,Z⟩:=o;obtain rfl:=bT W;refine aA fun a0 a1=>?_;refine aA fun b5 a2=>?_;refine aA fun o a3=>?_;obtain⟨a4,a5,a6⟩:=o;obtain rfl:=bT a3;intro h;obtain rfl:=cB h;exact aL (hs:=[.run 4,.call (.int .i64 c) (St.push st4 (.cells 26 true kZ)),.run 6,.val (.str d),.run 3,.bM AV.undef a,.aJ,.run 1,.val (.str b),.call (.bool false) a,.run 1,.aJ,.run 1,.val (.str b),.call (.bool false) a,.run 2,.aJ,.val (eZ X Y Z),.bM AV.undef a0,.run 1,.val (eZ a4 a5 a6)]) (by kernel_rfl) (aK a2<|aK (aP a1)<|aK V q9002) (by kernel_rfl) (by kernel_rfl)
noncomputable def q8 (R:Nat)(a0:List UInt8)(a1:Int):Option (Int×List UInt8×Int×Int):=(Ac 2000000 a0 a1 St.empty).map fun r=>(r.1,r.2.1,r.2.2.1,r.2.2.2.1)
noncomputable def uG (args:List AV):Option AV:=match args with
 | [.str a0,.int .i64 a1]=>(q8 0 a0 a1).map fun r=>(.tuple [(.agg [.int .i64 r.1,.str r.2.1,.int .i64 r.2.2.1]),(.int .i64 r.2.2.2)])
 | _=>none
theorem GI:nN C0 uC (33,uG):=by
 intro args v h0
 have h:uG args=some v:=h0
 unfold uG at h
 split at h
 ·obtain⟨q0,h2,rfl⟩:=Option.map_eq_some_iff.1 h
  obtain⟨q,h1,rfl⟩:=Option.map_eq_some_iff.1 h2
  exact⟨rfl,rfl,2000000,0+3,_,GH 0 h1⟩
 ·cases h
noncomputable def HP:List (Nat×(List AV→Option AV)):=[(33,uG)]
noncomputable def pJ:Ext:=wL (sG HP) uC
theorem Jx:oX C0.P pJ:=Dx F4 JW HY JW (by kernel_rfl) (.cons GI<|.nil)
theorem Bv (R:Nat)(a0:List UInt8)(a1:Int)(r:Int×List UInt8×Int×Int)(h:q8 R a0 a1=some r):pJ 33 [.str a0,.int .i64 a1]=some (.tuple [(.agg [.int .i64 r.1,.str r.2.1,.int .i64 r.2.2.1]),(.int .i64 r.2.2.2)]):=
 mL ((by kernel_rfl:sG HP 33 [.str a0,.int .i64 a1]=(q8 R a0 a1).map fun r=>(.tuple [(.agg [.int .i64 r.1,.str r.2.1,.int .i64 r.2.2.1]),(.int .i64 r.2.2.2)])).trans (by rw[h]; rfl))
theorem BN (R n:Nat)(a0:List UInt8)(a1:Int)(st:St)(r:Int×List UInt8×Int×Int)(h:q8 R a0 a1=some r):b7 (aR C0 pJ R (n+1)) false 33 [.str a0,.int .i64 a1] st (.tuple [(.agg [.int .i64 r.1,.str r.2.1,.int .i64 r.2.2.1]),(.int .i64 r.2.2.2)]) st:=lE (Bv R a0 a1 r h) st
theorem BS (R:Nat)(a0:List UInt8)(r:List UInt8×Int)(h:mF R a0=some r):pJ 30 [.str a0]=some (.tuple [(.str r.1),(.int .i64 r.2)]):=
 (by kernel_rfl:pJ 30 [.str a0]=uC 30 [.str a0]).trans (B5 R a0 r h)
theorem p9 (R n:Nat)(a0:List UInt8)(st:St)(r:List UInt8×Int)(h:mF R a0=some r):b7 (aR C0 pJ R (n+1)) false 30 [.str a0] st (.tuple [(.str r.1),(.int .i64 r.2)]) st:=lE (BS R a0 r h) st
theorem DL (R:Nat)(a0:List UInt8)(r:List UInt8×Bool)(h:pO R a0=some r):pJ 31 [.str a0]=some (.tuple [(.str r.1),(.bool r.2)]):=
 (by kernel_rfl:pJ 31 [.str a0]=uC 31 [.str a0]).trans (DN R a0 r h)
theorem xX (R n:Nat)(a0:List UInt8)(st:St)(r:List UInt8×Bool)(h:pO R a0=some r):b7 (aR C0 pJ R (n+1)) false 31 [.str a0] st (.tuple [(.str r.1),(.bool r.2)]) st:=lE (DL R a0 r h) st
theorem BU (R:Nat)(a0:Int)(r:Bool)(h:oM R a0=some r):pJ 32 [.int .u8 a0]=some (.bool r):=
 (by kernel_rfl:pJ 32 [.int .u8 a0]=uC 32 [.int .u8 a0]).trans (BA R a0 r h)
theorem Ap (R n:Nat)(a0:Int)(st:St)(r:Bool)(h:oM R a0=some r):b7 (aR C0 pJ R (n+1)) false 32 [.int .u8 a0] st (.bool r) st:=lE (BU R a0 r h) st
theorem BX (R:Nat)(a0:Int)(r:Bool)(h:nC R a0=some r):pJ 34 [.int .u8 a0]=some (.bool r):=
 (by kernel_rfl:pJ 34 [.int .u8 a0]=uC 34 [.int .u8 a0]).trans (CN R a0 r h)
theorem uR (R n:Nat)(a0:Int)(st:St)(r:Bool)(h:nC R a0=some r):b7 (aR C0 pJ R (n+1)) false 34 [.int .u8 a0] st (.bool r) st:=lE (BX R a0 r h) st
theorem C8 (R:Nat)(a0:Int)(r:Bool)(h:nD R a0=some r):pJ 16 [.int .u8 a0]=some (.bool r):=
 (by kernel_rfl:pJ 16 [.int .u8 a0]=uC 16 [.int .u8 a0]).trans (C4 R a0 r h)
end
end Go.Proofs.YthodfojhbbendaaDoor
end
