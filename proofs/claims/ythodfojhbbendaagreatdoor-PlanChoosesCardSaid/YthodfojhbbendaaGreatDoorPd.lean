/- PlanChooses, part 4 of 11 of its proof (what is proved: whatever the text is, the law answers true; conditions: those each theorem states). Joined and shortened by a program. In order: EvHd: Symbolic walks are what the evaluator does. | EvHe: What printed walks lean on: values taken apart, operations told in plain terms. | EvHf: What is reasoned with over printed walks: numbers, texts, rows by value. | EvHg: What is proved of a call by a walk may be taken as told by later walks; a law's walk ends  | EvWh: strconv.ParseInt (decimal, 64 bits) and strconv.Atoi, as the evaluator takes them: by the  | EvWj: strings.Contains (of one byte) and strings.ReplaceAll, as the evaluator takes them: by the | SynT: The evaluator over this seat's program: what is told of strconv, of bytes in texts, and th | SxA | SxB | SxC | SxD | SxE | SxG -/
import Derived.Test.YthodfojhbbendaaGreatDoorPc
import Derived.Shelf.Strconv.AtoiAll
import Derived.Shelf.Strconv.ParseIntPublic10
import Derived.Shelf.Strings.Search3
import Derived.Shelf.Strings.Replace
import Derived.Test.YthodfojhbbendaaGreatDoorLaid
import Derived.Test.YthodfojhbbendaaGreatDoorProg
import Derived.KernelRfl
import Derived.OpenShut
section
set_option linter.all false
namespace Go.Ev
section
variable {C:AO}{ck:CK}{f:FuncId}{rounds N:Nat}{ro:Option Nat}{ops:Array Oper}{ts:List AV}{ov ov':Tr AV}{s s':OS}{v:AV}{P:Program}
theorem AH (h:p9 N ov ts){x:Operand}(hx:HP ov x=some v):cH ts x=some v:=by
 cases x with
 | tmp t=>simp only[cH,h.2 t v hx]
 | const c=>exact hx
 | global g=>exact hx
 | func g=>exact hx
theorem s9 (h:p9 N ov ts):∀{xs:List Operand} {vs:List AV},Bd ov xs=some vs→cU ts xs=some vs
 | [],_,hx=>hx
 | x :: xs, vs, hx => by
   simp only[Bd,Option.bind_eq_some_iff,Option.some.injEq] at hx
   obtain⟨a,h1,a_,h2,rfl⟩:=hx
   simp only[cU,AH h h1,s9 h h2,Option.bind_some]
theorem GA (l:List AV)(i j:Nat)(v:AV)(h:i<l.length):(l.set i v).getD j AV.undef=if j=i then v else l.getD j AV.undef:=by
 simp only[List.getD_eq_getElem?_getD,List.getElem?_set]
 by_cases e:i=j
 ·subst e; simp[h]
 ·rw[if_neg e,if_neg (Ne.symm e)]
theorem p9.set (h:p9 N ov ts){d:Nat}(hd:d<N)(v:AV):p9 N (ov.set v d) (ts.set d v):=by
 refine⟨by simp[h.1],fun t u hu=>?_⟩
 rw[GA _ _ _ _ (by rw[h.1]; exact hd)]
 rw[Tr.bP] at hu
 split at hu
 ·rw[if_pos ‹_›]; exact Option.some.inj hu
 ·rw[if_neg ‹_›]; exact h.2 t u hu
theorem CU (h:p9 N ov ts){dst:Option Tmp}(hp:Hp N ov dst v=some ov'):p9 N ov' (qR ts dst v)∧ ∀ t,dst≠some t→(qR ts dst v).getD t AV.undef=ts.getD t AV.undef:=by
 cases dst with
 | none =>
   simp only[Hp,Option.some.injEq] at hp
   subst hp
   exact⟨h,fun _ _=>rfl⟩
 | some d =>
   simp only[Hp] at hp
   obtain⟨h1,h2⟩:=b7 hp
   have hd:d<N:=by
    have h1':d+1≤N:=Nat.le_of_ble_eq_true h1
    exact h1'
   obtain rfl:=Option.some.inj h2
   refine⟨h.set hd v,fun t ht=>?_⟩
   show(ts.set d v).getD t AV.undef=_
   rw[GA _ _ _ _ (by rw[h.1]; exact hd),if_neg (fun e=>ht (by rw[e]))]
theorem xB (h : p9 N ov ts) {o : Oper} {b : Bool} (hw : EC ops ov o = some b) : pR ops ts o = some b := by
 unfold EC at hw
 unfold pR
 cases hg:o.guard with
 | none=>rw[hg] at hw; exact hw
 | some p =>
   obtain⟨j,c⟩:=p
   rw[hg] at hw
   simp only at hw ⊢
   cases hd:(ops[j]?).bind (·.dst) with
   | none=>rw[hd] at hw; cases hw
   | some d =>
     rw[hd] at hw
     simp only at hw ⊢
     cases hv:ov.get d with
     | none=>rw[hv] at hw; cases hw
     | some v =>
       rw[h.2 _ _ hv]
       rw[hv] at hw
       cases v <;> first | exact hw | cases hw
def Ha:List (Nat×Operand)→List AV→List (Nat×AV)
 | (i,_) :: r,a :: a_=>(i,a) :: Ha r a_
 | _,_=>[]
theorem GG:∀{ps:List (Nat×Operand)} {vs:List AV},cU ts (ps.map (·.2))=some vs→qN ts ps=some (Ha ps vs)
 | [],_,h=>by rw[vW h]; rfl
 | (i, x) :: ps, _, h => by
   obtain⟨v,vs',rfl,h1,h2⟩:=mS h
   simp only[qN,h1,GG h2,Option.bind_some,Ha]
theorem Ec (place:Nat→Option (Nat×Nat)):∀(ps:List (Nat×Operand)) (vs:List AV) (cells:List AV),pY place cells (Ha ps vs)=EM place cells (J9 ps (vs.map AV.cells))
 | [],_,_=>by simp[Ha,J9,pY,EM]
 | (i,x) :: ps,[],_=>by simp[Ha,J9,pY,EM]
 | (i, x) :: ps, v :: vs, cells => by
   simp only[Ha,J9,List.map_cons,pY,EM,Ec place ps vs]
theorem Fm {t:TypeId}(ps:List (Nat×Operand))(vs:List AV):Cq P t (Ha ps vs)=JV P t (J9 ps (vs.map AV.cells)):=by
 unfold Cq JV
 simp only[Ec]
 cases v7 P t with
 | none=>rfl
 | some z =>
   cases P.underlying t with
   | none=>rfl
   | some d=>cases d <;> rfl
theorem G4 {o:Oper}(hp:DF C f o s=some (v,s'))(hc:mD s'.cs):mD s.cs∧s'.ov=s.ov∧s'.ds=s.ds∧FI o.op=true∧ ∀ ts,p9 N s.ov ts→E7 C f ts s.st o=some (v,s'.st):=by
 unfold DF at hp
 obtain⟨hk,hp⟩:=fK hp
 simp only[Bool.not_eq_false'] at hk
 simp only[Option.bind_eq_some_iff] at hp
 obtain⟨vs,hvs,hp⟩:=hp
 have key:∀ ts,p9 N s.ov ts→E7 C f vs s.st { o with op:=kY o.op }=E7 C f ts s.st o:=fun ts ht=>PW hk (s9 ht hvs)
 split at hp
 ·simp only[Option.bind_eq_some_iff,Option.some.injEq,Prod.mk.injEq] at hp
  obtain⟨r,h1,rfl,rfl⟩:=hp
  exact⟨hc,rfl,rfl,hk,fun ts ht=>by rw[← key ts ht,h1]⟩
 ·simp only[Option.bind_eq_some_iff] at hp
  obtain⟨r,h1,hp⟩:=hp
  split at hp
  ·rename_i b hb
   simp only[Option.some.injEq,Prod.mk.injEq] at hp
   obtain⟨rfl,rfl⟩:=hp
   have:=hc.head
   subst this
   exact⟨hc.tail,rfl,rfl,hk,fun ts ht=>by rw[← key ts ht,h1,← hb]⟩
  ·cases hp
 ·split at hp
  ·rename_i ho
   simp only[Option.some.injEq,Prod.mk.injEq] at hp
   obtain⟨rfl,rfl⟩:=hp
   have:=hc.head
   refine⟨hc.tail,rfl,rfl,hk,fun ts ht=>?_⟩
   rw[← key ts ht]
   unfold E7
   simp only[zC hk,ho,this,Option.bind_some]
  ·rename_i ho
   simp only[Option.some.injEq,Prod.mk.injEq] at hp
   obtain⟨rfl,rfl⟩:=hp
   have:=hc.head
   refine⟨hc.tail,rfl,rfl,hk,fun ts ht=>?_⟩
   rw[← key ts ht]
   unfold E7
   simp only[zC hk,ho,Da hk (s9 ht hvs),this,Option.bind_some]
  ·cases hp
 ·split at hp
  ·rename_i t ps ho
   simp only[Option.bind_eq_some_iff,Option.some.injEq,Prod.mk.injEq] at hp
   obtain⟨v1,h1,rfl,rfl⟩:=hp
   have:=hc.head
   refine⟨hc.tail,rfl,rfl,hk,fun ts ht=>?_⟩
   have h2:=s9 ht hvs
   rw[ho] at h2
   unfold E7
   rw[ho]
   simp only[lZ,gC]
   rw[GG (by simpa[Op.operands] using h2)]
   simp only[Option.bind_some]
   rw[Fm,this,h1]
   rfl
  ·cases hp
 ·split at hp
  ·rename_i ho
   simp only[Option.some.injEq,Prod.mk.injEq] at hp
   obtain⟨rfl,rfl⟩:=hp
   have:=hc.head
   refine⟨hc.tail,rfl,rfl,hk,fun ts ht=>?_⟩
   rw[← key ts ht]
   unfold E7
   simp only[zC hk,ho,this]
  ·rename_i ho
   simp only[Option.some.injEq,Prod.mk.injEq] at hp
   obtain⟨rfl,rfl⟩:=hp
   have:=hc.head
   refine⟨hc.tail,rfl,rfl,hk,fun ts ht=>?_⟩
   rw[← key ts ht]
   unfold E7
   simp only[zC hk,ho]
   rw[Option.bind_eq_some_iff]
   obtain⟨a,h1,h2,h3⟩:=this
   exact⟨a,h1,by rw[h2,h3]⟩
  ·cases hp
 ·cases hp
theorem I6 {o:Oper}{st st':St}(hk:FI o.op=true)(h:E7 C f ts st o=some (v,st'))(k:AV→List oK→St→Bool):y5 C ck f ro ts st o k=k v [] st':=by
 unfold y5
 split
 ·rename_i e; rw[e] at hk; cases hk
 ·rename_i e; rw[e] at hk; cases hk
 ·rename_i e; rw[e] at hk; cases hk
 ·rename_i e; rw[e] at hk; cases hk
 ·rw[h]
theorem Ma {o : Oper} (hp : QI C ck f ro o s = some (v, s')) (hc : mD s'.cs) :
 mD s.cs∧s'.ov=s.ov∧ ∃ nd,s'.ds=nd ++ s.ds∧ ∀ ts,p9 N s.ov ts→ ∀ k,y5 C ck f ro ts s.st o k=k v nd s'.st:=by
 unfold QI at hp
 split at hp
 ·rename_i x args tys e
  split at hp
  ·rename_i v0 st0 hs0 e0
   simp only[Option.bind_eq_some_iff] at hp
   obtain⟨fv,h1,a_,h2,hp⟩:=hp
   split at hp
   ·simp only[Option.some.injEq,Prod.mk.injEq] at hp
    obtain⟨rfl,rfl⟩:=hp
    obtain⟨p,hd⟩:=hc.head
    refine⟨hc.tail,rfl,[],rfl,fun ts ht k=>?_⟩
    unfold y5
    rw[e]
    simp only[AH ht h1,s9 ht h2,hd]
   ·simp only[Option.some.injEq,Prod.mk.injEq] at hp
    obtain⟨rfl,rfl⟩:=hp
    obtain⟨p,hd⟩:=hc.head
    refine⟨hc.tail,rfl,[],rfl,fun ts ht k=>?_⟩
    unfold y5
    rw[e]
    simp only[AH ht h1,s9 ht h2,hd]
   ·cases hp
  ·cases hp
 ·rename_i x name args tys e
  split at hp
  ·rename_i v0 st0 hs0 e0
   simp only[Option.bind_eq_some_iff] at hp
   obtain⟨fv,h1,a_,h2,hp⟩:=hp
   split at hp
   ·simp only[Option.bind_eq_some_iff] at hp
    obtain⟨⟨g,r⟩,h3,hp⟩:=hp
    simp only[Option.some.injEq,Prod.mk.injEq] at hp
    obtain⟨rfl,rfl⟩:=hp
    obtain⟨p,hd⟩:=hc.head
    refine⟨hc.tail,rfl,[],rfl,fun ts ht k=>?_⟩
    unfold y5
    rw[e]
    simp only[AH ht h1,s9 ht h2,h3,hd]
   ·cases hp
  ·cases hp
 ·rename_i x args tys e
  obtain⟨hro,hp⟩:=fK hp
  simp only[Option.bind_eq_some_iff] at hp
  obtain⟨fv,h1,ks,h2,hp⟩:=hp
  split at hp
  ·simp only[Option.some.injEq,Prod.mk.injEq] at hp
   obtain⟨rfl,rfl⟩:=hp
   refine⟨hc,rfl,[_],rfl,fun ts ht k=>?_⟩
   unfold y5
   rw[e]
   simp only[hro,cond_false,AH ht h1,s9 ht h2]
  ·cases hp
 ·cases hp
 ·cases hp
 ·obtain⟨h1,h2,h5,h3,h4⟩:=G4 hp hc
  exact⟨h1,h2,[],h5,fun ts ht k=>I6 h3 (h4 ts ht) k⟩
theorem NC {o:Oper}(hp:M6 C ck f ro N ops o s=some s')(hc:mD s'.cs):
 mD s.cs∧ ∀ ts ds,p9 N s.ov ts→ ∃ ts',p9 N s'.ov ts'∧(∀ t,o.dst≠some t→ts'.getD t AV.undef=ts.getD t AV.undef)∧ ∀ k,Ce C ck f ro ops o ⟨ts,s.ds ++ ds,s.st⟩ k=k ⟨ts',s'.ds ++ ds,s'.st⟩:=by
 unfold M6 at hp
 simp only[Option.bind_eq_some_iff] at hp
 obtain⟨w,hw,hp⟩:=hp
 cases w with
 | true =>
   simp only[Option.bind_eq_some_iff,Option.some.injEq] at hp
   obtain⟨⟨v,s1⟩,h1,ov,h2,rfl⟩:=hp
   obtain⟨k1,k2,nd,k4,k3⟩:=Ma (ro:=ro) (N:=N) h1 hc
   refine⟨k1,fun ts ds ht=>?_⟩
   simp only[k2] at h2
   obtain⟨p1,p2⟩:=CU ht h2
   refine⟨_,p1,p2,fun k=>?_⟩
   unfold Ce
   simp only[xB ht hw,k3 ts ht]
   have e4:s1.ds=nd ++ s.ds:=k4
   simp only[e4,List.append_assoc]
 | false =>
   simp only[Option.bind_eq_some_iff,Option.some.injEq] at hp
   obtain⟨ov,h2,rfl⟩:=hp
   refine⟨hc,fun ts ds ht=>?_⟩
   obtain⟨p1,p2⟩:=CU ht h2
   refine⟨_,p1,p2,fun k=>?_⟩
   unfold Ce
   simp only[xB ht hw]
theorem Ix {l:List Nat}{n:Nat}(h:Gg l n=false):n ∉ l:=by
 intro hm
 have:Gg l n=true:=List.any_eq_true.2 ⟨n,hm,by simp⟩
 rw[this] at h; cases h
theorem DU {l:List Nat}{n:Nat}(h:n ∉ l):Gg l n=false:=by
 cases e:Gg l n with
 | false=>rfl
 | true =>
   obtain⟨m,h1,h2⟩:=List.any_eq_true.1 e
   have : n = m := by have : m = n := by simpa using h2
                      exact this.symm
   subst this
   exact absurd h1 h
theorem xR {o:Oper}{t:Nat}:∀{l:List Oper},o ∈ l→o.dst=some t→t ∈ zV l
 | a :: l, hm, ht => by
   unfold zV
   rcases List.mem_cons.1 hm with rfl | hm
   ·rw[ht]; exact List.mem_cons_self
   ·split
    ·exact List.mem_cons_of_mem _ (xR hm ht)
    ·exact xR hm ht
theorem KH:∀{l:List Oper} {s s':OS},Mx C ck f ro N ops l s=some s'→mD s'.cs →
 mD s.cs∧ ∀ ts ds,p9 N s.ov ts→ ∃ ts',p9 N s'.ov ts'∧(∀ t,t ∉ zV l→ts'.getD t AV.undef=ts.getD t AV.undef)∧ ∀ k,zZ C ck f ro ops l ⟨ts,s.ds ++ ds,s.st⟩ k=k ⟨ts',s'.ds ++ ds,s'.st⟩
 | [], s, s', hp, hc => by
   simp only[Mx,Option.some.injEq] at hp
   subst hp
   exact⟨hc,fun ts ds ht=>⟨ts,ht,fun _ _=>rfl,fun k=>rfl⟩⟩
 | o :: l, s, s', hp, hc => by
   simp only[Mx,Option.bind_eq_some_iff] at hp
   obtain⟨s1,h1,h2⟩:=hp
   obtain⟨c1,k2⟩:=KH h2 hc
   obtain⟨c0,k1⟩:=NC (ro:=ro) h1 c1
   refine⟨c0,fun ts ds ht=>?_⟩
   obtain⟨ts1,t1,p1,e1⟩:=k1 ts ds ht
   obtain⟨ts2,t2,p2,e2⟩:=k2 ts1 ds t1
   refine⟨ts2,t2,fun t hm=>?_,fun k=>?_⟩
   ·rw[p2 t (fun h=>hm (by unfold zV; split <;> simp[h])),p1 t (fun h=>hm (xR List.mem_cons_self h))]
   ·simp only[zZ,e1,e2]
theorem G9 {st:St}:∀{rd:List Rd} {cs:List Prop},mD (Iu P st rd cs)→mD cs∧rd.all (Gn P st)=true
 | [],_,h=>⟨h,rfl⟩
 | r :: rd, cs, h => by
   obtain⟨h1,h2⟩:=G9 h.tail
   obtain⟨h3,h4⟩:=h.head
   refine⟨h1,?_⟩
   simp only[List.all_cons,h2,Bool.and_true,Gn,h3,h4]
theorem Oy (h:p9 N ov ts){vs:List AV}{o:Oper}(hv:Bd ov o.op.operands.toList=some vs)(i:Nat)(v:AV):Qg P ov i o v=OC P ts i o v:=by
 unfold Qg OC
 rw[hv,s9 h hv]
 cases lZ P o.op <;> rfl
theorem H8 {o:Oper}(hp:DF C f o s=some (v,s')):∃ vs,Bd s.ov o.op.operands.toList=some vs:=by
 unfold DF at hp
 obtain⟨hk,hp⟩:=fK hp
 simp only[Option.bind_eq_some_iff] at hp
 obtain⟨vs,hvs,_⟩:=hp
 exact⟨vs,hvs⟩
theorem CG : ∀ {l : List rC} {rd : List Rd} {s s' : OS}, Ey C ck f ro N ops l rd s = some s' → mD s'.cs →
 mD s.cs∧ ∀ ts ds,p9 N s.ov ts→ ∃ ts',p9 N s'.ov ts'∧(∀ t,(∀ p ∈ l,p.o.dst≠some t)→ts'.getD t AV.undef=ts.getD t AV.undef)∧ ∀ k,jK C ck f ro ops l rd ⟨ts,s.ds ++ ds,s.st⟩ k=k ⟨ts',s'.ds ++ ds,s'.st⟩
 | [], rd, s, s', hp, hc => by
   simp only[Ey,Option.some.injEq] at hp
   subst hp
   exact⟨hc,fun ts ds ht=>⟨ts,ht,fun _ _=>rfl,fun k=>rfl⟩⟩
 | p :: l, rd, s, s', hp, hc => by
   simp only[Ey,Option.bind_eq_some_iff] at hp
   obtain⟨w,hw,hp⟩:=hp
   cases w with
   | false =>
     simp only[Option.bind_eq_some_iff] at hp
     obtain⟨ov,h1,h2⟩:=hp
     obtain⟨c1,k2⟩:=CG h2 hc
     refine⟨c1,fun ts ds ht=>?_⟩
     obtain⟨p1,p2⟩:=CU ht h1
     obtain⟨ts2,t2,q2,e2⟩:=k2 _ ds p1
     refine⟨ts2,t2,fun t hm=>?_,fun k=>?_⟩
     ·rw[q2 t (fun x hx=>hm x (List.mem_cons_of_mem _ hx)),p2 t (hm p List.mem_cons_self)]
     ·unfold jK
      simp only[xB ht hw,e2]
   | true =>
     simp only at hp
     split at hp
     ·rename_i he
      simp only[Option.bind_eq_some_iff] at hp
      obtain⟨⟨v,s1⟩,h1,ov,h2,h3⟩:=hp
      obtain⟨c1,k2⟩:=CG h3 hc
      obtain⟨c0,e0,e5,_,k1⟩:=G4 (N:=N) h1 c1
      refine⟨c0,fun ts ds ht=>?_⟩
      simp only[e0] at h2
      obtain⟨p1,p2⟩:=CU ht h2
      obtain⟨ts2,t2,q2,e2⟩:=k2 _ ds p1
      refine⟨ts2,t2,fun t hm=>?_,fun k=>?_⟩
      ·rw[q2 t (fun x hx=>hm x (List.mem_cons_of_mem _ hx)),p2 t (hm p List.mem_cons_self)]
      ·obtain⟨vs,hvs⟩:=H8 h1
       rw[Oy ht hvs] at e2
       have e5:s1.ds=s.ds:=e5
       simp only[e5] at e2
       unfold jK
       simp only[xB ht hw,he,k1 ts ht,e2]
     ·rename_i he
      simp only[Option.bind_eq_some_iff] at hp
      obtain⟨⟨v,s1⟩,h1,ov,h2,h3⟩:=hp
      obtain⟨c1,k2⟩:=CG h3 hc
      obtain⟨c1,hr⟩:=G9 c1
      obtain⟨c0,e0,nd,e5,k1⟩:=Ma (ro:=ro) (N:=N) h1 c1
      refine⟨c0,fun ts ds ht=>?_⟩
      simp only[e0] at h2
      obtain⟨p1,p2⟩:=CU ht h2
      obtain⟨ts2,t2,q2,e2⟩:=k2 _ ds p1
      refine⟨ts2,t2,fun t hm=>?_,fun k=>?_⟩
      ·rw[q2 t (fun x hx=>hm x (List.mem_cons_of_mem _ hx)),p2 t (hm p List.mem_cons_self)]
      ·unfold jK
       have e5:s1.ds=nd ++ s.ds:=e5
       simp only[e5,List.append_assoc] at e2
       simp only[xB ht hw,he,k1 ts ht,hr,cond_true]
       exact e2 k
theorem FN (h:p9 N ov ts):∀{l:List Nat} {outs:List (Nat×AV)},GQ ov l=some outs→Has N outs ts
 | [], _, hp => by
   simp only[GQ,Option.some.injEq] at hp
   subst hp
   exact⟨h.1,fun _ hm=>by cases hm⟩
 | t :: l, outs, hp => by
   simp only[GQ,Option.bind_eq_some_iff,Option.some.injEq] at hp
   obtain⟨v,h1,l',h2,rfl⟩:=hp
   have h3:=FN h h2
   refine⟨h.1,fun p hm=>?_⟩
   rcases List.mem_cons.1 hm with rfl | hm
   ·exact h.2 t v h1
   ·exact h3.2 p hm
theorem ET : ∀ (o : Tr AV) (n m : Nat), (Kx o n).get m = if m = n then none else o.get m
 | .leaf,n,m=>by simp[Kx,Tr.get]
 | .node l v r, n, m => by
   simp only[Kx,iN]
   by_cases h0:n=0
   ·subst h0
    simp only[if_true,Tr.get,iN]
    by_cases hm:m=0 <;> simp[hm]
   ·rw[if_neg h0]
    by_cases h1:n % 2=1
    ·rw[if_pos h1]
     simp only[Tr.get,iN,ET l]
     by_cases hm:m=0
     ·subst hm; rw[if_pos rfl,if_pos rfl,if_neg (by omega)]
     ·rw[if_neg hm,if_neg hm]
      by_cases hm1:m % 2=1
      ·rw[if_pos hm1,if_pos hm1]
       by_cases e:m=n
       ·subst e; simp
       ·rw[if_neg e,if_neg (by omega)]
      ·rw[if_neg hm1,if_neg hm1,if_neg (by omega)]
    ·rw[if_neg h1]
     simp only[Tr.get,iN,ET r]
     by_cases hm:m=0
     ·subst hm; rw[if_pos rfl,if_pos rfl,if_neg (by omega)]
     ·rw[if_neg hm,if_neg hm]
      by_cases hm1:m % 2=1
      ·rw[if_pos hm1,if_pos hm1,if_neg (by omega)]
      ·rw[if_neg hm1,if_neg hm1]
       by_cases e:m=n
       ·subst e; simp
       ·rw[if_neg e,if_neg (by omega)]
theorem GW:∀(l:List Nat) (o:Tr AV) (m:Nat),(IJ o l).get m=if m ∈ l then none else o.get m
 | [],o,m=>by simp[IJ]
 | t :: l, o, m => by
   simp only[IJ,GW l,ET,List.mem_cons]
   by_cases h1:m ∈ l <;> by_cases h2:m=t <;> simp[h1,h2]
theorem ES : ∀ {l : List (Nat × AV)} {o o' : Tr AV}, BX N o l = some o' → ∀ t v, o'.get t = some v → (∃ p ∈ l, p = (t, v)) ∨ o.get t = some v
 | [], o, o', h, t, v, hv => by
   simp only[BX,Option.some.injEq] at h
   subst h
   exact .inr hv
 | (a, u) :: l, o, o', h, t, v, hv => by
   simp only[BX] at h
   obtain⟨_,h⟩:=b7 h
   rcases ES h t v hv with⟨p,h1,h2⟩ | h3
   ·exact .inl ⟨p,List.mem_cons_of_mem _ h1,h2⟩
   ·rw[Tr.bP] at h3
    split at h3
    ·rename_i e
     subst e
     exact .inl ⟨_,List.mem_cons_self,by rw[Option.some.inj h3]⟩
    ·exact .inr h3
theorem Has.Qp {l:List (Nat×AV)}(h:Has N l ts)(hs:BX N .leaf l=some ov):p9 N ov ts:=
 ⟨h.1,fun t v hv=>by
  rcases ES hs t v hv with⟨p,h1,rfl⟩ | h2
  ·exact h.2 _ h1
  ·cases h2⟩
theorem E8 {run:Fr→(cE→Fr→Bool)→Bool}{mods ins:List Nat}{e e':cE}{outs:List (Nat×AV)}{st':St}{hs:List Hint}
 (hp:LY N run mods ins e outs st' hs s=some (e',s')) (hc:mD s'.cs):
 mD s.cs∧ ∀ ts ds,p9 N s.ov ts→ ∃ ts',p9 N s'.ov ts'∧(∀ t,t ∉ mods→ts'.getD t AV.undef=ts.getD t AV.undef)∧ ∀ k,run ⟨ts,s.ds ++ ds,s.st⟩ k=k e' ⟨ts',s'.ds ++ ds,s'.st⟩:=by
 simp only[LY,Option.bind_eq_some_iff,Option.some.injEq,Prod.mk.injEq] at hp
 obtain⟨l,h1,ov,h2,rfl,rfl⟩:=hp
 refine⟨hc.tail,fun ts ds ht=>?_⟩
 obtain⟨ts',k1,k2,k3⟩:=hc.head ts (s.ds ++ ds) (FN ht h1)
 refine⟨ts',⟨k1.1,fun t v hv=>?_⟩,fun t ht'=>k2 t (DU ht'),k3⟩
 rcases ES h2 t v hv with⟨p,h3,rfl⟩ | h3
 ·exact k1.2 _ h3
 ·rw[GW] at h3
  split at h3
  ·cases h3
  ·rename_i hm
   rw[k2 t (DU hm)]
   exact ht.2 t v h3
theorem Je {P : Program} {ol : List Oper} {befs : List Nat} : ∀ {n mask : Nat} {l : List rC}, zN P ol befs n mask = some l → ∀ p ∈ l, p.o ∈ ol := by
 have rd_mem:∀{os:List Oper} {i mask:Nat} {x:Nat×Oper},x ∈ readies ol mask os i→x.2 ∈ os:=by
  intro os
  induction os with
  | nil=>intro i mask x h; cases h
  | cons a os ih =>
    intro i mask x h
    simp only[readies] at h
    cases hc:AK ol mask i a with
    | true =>
      rw[hc] at h
      simp only[cond_true] at h
      rcases List.mem_cons.1 h with rfl | h
      ·exact List.mem_cons_self
      ·exact List.mem_cons_of_mem _ (ih h)
    | false =>
      rw[hc] at h
      exact List.mem_cons_of_mem _ (ih h)
 intro n
 induction n with
 | zero =>
   intro mask l h p hp
   simp only[zN] at h
   split at h
   ·obtain rfl:=Option.some.inj h; cases hp
   ·cases h
 | succ n ih =>
   intro mask l h p hp
   simp only[zN] at h
   split at h
   ·rename_i i o e
    simp only[Option.bind_eq_some_iff,Option.some.injEq] at h
    obtain⟨l',h1,rfl⟩:=h
    rcases List.mem_cons.1 hp with rfl | hp
    ·exact rd_mem (List.mem_of_find?_eq_some e)
    ·exact ih h1 p hp
   ·obtain rfl:=Option.some.inj h; cases hp
   ·rename_i i o e1 e2
    simp only[Option.bind_eq_some_iff,Option.some.injEq] at h
    obtain⟨l',h1,rfl⟩:=h
    rcases List.mem_cons.1 hp with rfl | hp
    ·have:(i,o) ∈ readies ol mask ol 0:=by rw[e2]; exact List.mem_cons_self
     exact rd_mem this
    ·exact ih h1 p hp
   ·cases h
theorem MX {P:Program}{l:List rC}(h:Lc P ops=some l):∀ p ∈ l,p.o ∈ ops.toList:=by
 unfold Lc at h
 simp only at h
 exact Je (b7 h).2
theorem FJ : ∀ {c : Code} {s : OS} {e : cE} {s' : OS}, n4 C ck f rounds ro N c s = some (e, s') → mD s'.cs →
 mD s.cs∧ ∀ ts ds,p9 N s.ov ts→ ∃ ts',p9 N s'.ov ts'∧(∀ t,t ∉ dI c→ts'.getD t AV.undef=ts.getD t AV.undef)∧ ∀ k,cZ C ck f rounds ro c ⟨ts,s.ds ++ ds,s.st⟩ k=k e ⟨ts',s'.ds ++ ds,s'.st⟩:=by
 intro c
 induction c with
 | skip =>
   intro s e s' h hc
   simp only[n4,Option.some.injEq,Prod.mk.injEq] at h
   obtain⟨rfl,rfl⟩:=h
   exact⟨hc,fun ts ds ht=>⟨ts,ht,fun _ _=>rfl,fun k=>rfl⟩⟩
 | region id ops draw =>
   intro s e s' h hc
   have plain:∀{s0:OS},s0=s→Ng C ck f ro N ops draw s0=some (e,s') →
    mD s.cs∧ ∀ ts ds,p9 N s.ov ts→ ∃ ts',p9 N s'.ov ts'∧(∀ t,t ∉ dI (.region id ops draw)→ts'.getD t AV.undef=ts.getD t AV.undef)∧ ∀ k,cZ C ck f rounds ro (.region id ops draw) ⟨ts,s.ds ++ ds,s.st⟩ k=k e ⟨ts',s'.ds ++ ds,s'.st⟩:=by
    intro s0 e0 hh
    subst e0
    cases draw with
    | false =>
      simp only[Ng,Option.bind_eq_some_iff,Option.some.injEq,Prod.mk.injEq] at hh
      obtain⟨s1,h1,rfl,rfl⟩:=hh
      obtain⟨c0,k1⟩:=KH (ro:=ro) h1 hc
      refine⟨c0,fun ts ds ht=>?_⟩
      obtain⟨ts1,t1,p1,e1⟩:=k1 ts ds ht
      exact⟨ts1,t1,p1,fun k=>by simp only[cZ,e1]⟩
    | true =>
      simp only[Ng,Option.bind_eq_some_iff,Option.some.injEq,Prod.mk.injEq] at hh
      obtain⟨l,h0,s1,h1,rfl,rfl⟩:=hh
      obtain⟨c0,k1⟩:=CG (ro:=ro) h1 hc
      refine⟨c0,fun ts ds ht=>?_⟩
      obtain⟨ts1,t1,p1,e1⟩:=k1 ts ds ht
      exact⟨ts1,t1,fun t hm=>p1 t fun p hp hd=>hm (xR (MX h0 p hp) hd),fun k=>by simp only[cZ,h0,e1]⟩
   simp only[n4] at h
   split at h
   ·exact E8 h hc
   ·exact plain rfl h
 | seq a b iha ihb =>
   intro s e s' h hc
   simp only[n4,Option.bind_eq_some_iff] at h
   obtain⟨⟨e1,s1⟩,h1,h⟩:=h
   cases e1 with
   | normal =>
     simp only at h
     obtain⟨c1,k2⟩:=ihb h hc
     obtain⟨c0,k1⟩:=iha h1 c1
     refine⟨c0,fun ts ds ht=>?_⟩
     obtain⟨ts1,t1,p1,e1⟩:=k1 ts ds ht
     obtain⟨ts2,t2,p2,e2⟩:=k2 ts1 ds t1
     refine⟨ts2,t2,fun t hm=>?_,fun k=>by simp only[cZ,e1,e2]⟩
     simp only[dI,List.mem_append,not_or] at hm
     rw[p2 t hm.2,p1 t hm.1]
   | exit i =>
     simp only[Option.some.injEq,Prod.mk.injEq] at h
     obtain⟨rfl,rfl⟩:=h
     obtain⟨c0,k1⟩:=iha h1 hc
     refine⟨c0,fun ts ds ht=>?_⟩
     obtain⟨ts1,t1,p1,e1⟩:=k1 ts ds ht
     refine⟨ts1,t1,fun t hm=>?_,fun k=>by simp only[cZ,e1]⟩
     simp only[dI,List.mem_append,not_or] at hm
     exact p1 t hm.1
   | ret =>
     simp only[Option.some.injEq,Prod.mk.injEq] at h
     obtain⟨rfl,rfl⟩:=h
     obtain⟨c0,k1⟩:=iha h1 hc
     refine⟨c0,fun ts ds ht=>?_⟩
     obtain⟨ts1,t1,p1,e1⟩:=k1 ts ds ht
     refine⟨ts1,t1,fun t hm=>?_,fun k=>by simp only[cZ,e1]⟩
     simp only[dI,List.mem_append,not_or] at hm
     exact p1 t hm.1
 | cond c a b iha ihb =>
   intro s e s' h hc
   have yes:∀{s0:OS},n4 C ck f rounds ro N a s0=some (e,s')→s0.ov=s.ov→s0.st=s.st→s0.ds=s.ds→mD s0.cs=mD s.cs→HP s.ov c=some (.bool true) →
    mD s.cs∧ ∀ ts ds,p9 N s.ov ts→ ∃ ts',p9 N s'.ov ts'∧(∀ t,t ∉ dI (.cond c a b)→ts'.getD t AV.undef=ts.getD t AV.undef)∧ ∀ k,cZ C ck f rounds ro (.cond c a b) ⟨ts,s.ds ++ ds,s.st⟩ k=k e ⟨ts',s'.ds ++ ds,s'.st⟩:=by
    intro s0 h g1 g2 g4 g3 hg
    obtain⟨c0,k1⟩:=iha h hc
    rw[g3] at c0
    rw[g1,g2,g4] at k1
    refine⟨c0,fun ts ds ht=>?_⟩
    obtain⟨ts1,t1,p1,e1⟩:=k1 ts ds ht
    refine⟨ts1,t1,fun t hm=>?_,fun k=>by simp only[cZ,AH ht hg,e1]⟩
    simp only[dI,List.mem_append,not_or] at hm
    exact p1 t hm.1
   have no:∀{s0:OS},n4 C ck f rounds ro N b s0=some (e,s')→s0.ov=s.ov→s0.st=s.st→s0.ds=s.ds→mD s0.cs=mD s.cs→HP s.ov c=some (.bool false) →
    mD s.cs∧ ∀ ts ds,p9 N s.ov ts→ ∃ ts',p9 N s'.ov ts'∧(∀ t,t ∉ dI (.cond c a b)→ts'.getD t AV.undef=ts.getD t AV.undef)∧ ∀ k,cZ C ck f rounds ro (.cond c a b) ⟨ts,s.ds ++ ds,s.st⟩ k=k e ⟨ts',s'.ds ++ ds,s'.st⟩:=by
    intro s0 h g1 g2 g4 g3 hg
    obtain⟨c0,k1⟩:=ihb h hc
    rw[g3] at c0
    rw[g1,g2,g4] at k1
    refine⟨c0,fun ts ds ht=>?_⟩
    obtain⟨ts1,t1,p1,e1⟩:=k1 ts ds ht
    refine⟨ts1,t1,fun t hm=>?_,fun k=>by simp only[cZ,AH ht hg,e1]⟩
    simp only[dI,List.mem_append,not_or] at hm
    exact p1 t hm.2
   simp only[n4] at h
   split at h
   ·exact E8 h hc
   ·split at h
    ·exact yes h rfl rfl rfl rfl ‹_›
    ·exact no h rfl rfl rfl rfl ‹_›
    ·cases h
   ·split at h
    ·exact yes h rfl rfl rfl rfl ‹_›
    ·exact no h rfl rfl rfl rfl ‹_›
    ·cases h
 | block id b ih =>
   intro s e s' h hc
   have core:∀{s0:OS},((n4 C ck f rounds ro N b s0).bind fun r=>match r.1 with
    | .exit i=>some (cond (Nat.beq i id) .normal (.exit i),r.2)
    | e=>some (e,r.2))=some (e,s')→s0.ov=s.ov→s0.st=s.st→s0.ds=s.ds→s0.cs=s.cs →
    mD s.cs∧ ∀ ts ds,p9 N s.ov ts→ ∃ ts',p9 N s'.ov ts'∧(∀ t,t ∉ dI (.block id b)→ts'.getD t AV.undef=ts.getD t AV.undef)∧ ∀ k,cZ C ck f rounds ro (.block id b) ⟨ts,s.ds ++ ds,s.st⟩ k=k e ⟨ts',s'.ds ++ ds,s'.st⟩:=by
    intro s0 h g1 g2 g3 g4
    simp only[Option.bind_eq_some_iff] at h
    obtain⟨⟨e1,s1⟩,h1,h⟩:=h
    cases e1 with
    | normal =>
      simp only[Option.some.injEq,Prod.mk.injEq] at h
      obtain⟨rfl,rfl⟩:=h
      obtain⟨c0,k1⟩:=ih h1 hc
      rw[g4] at c0
      rw[g1,g2,g3] at k1
      refine⟨c0,fun ts ds ht=>?_⟩
      obtain⟨ts1,t1,p1,e1⟩:=k1 ts ds ht
      exact⟨ts1,t1,p1,fun k=>by simp only[cZ,e1]⟩
    | exit i =>
      simp only[Option.some.injEq,Prod.mk.injEq] at h
      obtain⟨rfl,rfl⟩:=h
      obtain⟨c0,k1⟩:=ih h1 hc
      rw[g4] at c0
      rw[g1,g2,g3] at k1
      refine⟨c0,fun ts ds ht=>?_⟩
      obtain⟨ts1,t1,p1,e1⟩:=k1 ts ds ht
      refine⟨ts1,t1,p1,fun k=>?_⟩
      simp only[cZ,e1]
      cases Nat.beq i id <;> rfl
    | ret =>
      simp only[Option.some.injEq,Prod.mk.injEq] at h
      obtain⟨rfl,rfl⟩:=h
      obtain⟨c0,k1⟩:=ih h1 hc
      rw[g4] at c0
      rw[g1,g2,g3] at k1
      refine⟨c0,fun ts ds ht=>?_⟩
      obtain⟨ts1,t1,p1,e1⟩:=k1 ts ds ht
      exact⟨ts1,t1,p1,fun k=>by simp only[cZ,e1]⟩
   simp only[n4] at h
   split at h
   ·exact E8 h hc
   ·exact core h rfl rfl rfl rfl
   ·exact core h rfl rfl rfl rfl
 | loop b ih =>
   intro s e s' h hc
   simp only[n4] at h
   split at h
   ·exact E8 h hc
   ·cases h
 | exit id =>
   intro s e s' h hc
   simp only[n4,Option.some.injEq,Prod.mk.injEq] at h
   obtain⟨rfl,rfl⟩:=h
   exact⟨hc,fun ts ds ht=>⟨ts,ht,fun _ _=>rfl,fun k=>rfl⟩⟩
 | label l =>
   intro s e s' h hc
   simp only[n4,Option.some.injEq,Prod.mk.injEq] at h
   obtain⟨rfl,rfl⟩:=h
   exact⟨hc,fun ts ds ht=>⟨ts,ht,fun _ _=>rfl,fun k=>rfl⟩⟩
 | scope b ih =>
   intro s e s' h hc
   simp only[n4] at h
   obtain⟨c0,k1⟩:=ih h hc
   refine⟨c0,fun ts ds ht=>?_⟩
   obtain⟨ts1,t1,p1,e1⟩:=k1 ts ds ht
   exact⟨ts1,t1,p1,fun k=>by simp only[cZ,e1]⟩
 | ret =>
   intro s e s' h hc
   simp only[n4,Option.some.injEq,Prod.mk.injEq] at h
   obtain⟨rfl,rfl⟩:=h
   exact⟨hc,fun ts ds ht=>⟨ts,ht,fun _ _=>rfl,fun k=>rfl⟩⟩
 | _=>intro s e s' h hc; simp only[n4] at h; cases h
theorem aK {c:Code}{hs:List Hint}{ins:List (Nat×AV)}{st st':St}{want:List Nat}{cs:List Prop}{e:cE}{outs:List (Nat×AV)}
 (h:Pk C ck f rounds ro N c hs ins st want=some (cs,e,outs,st')) (hc:mD cs):jL N (cZ C ck f rounds ro c) (dI c) ins st e outs st':=by
 simp only[Pk,Option.bind_eq_some_iff,Option.some.injEq,Prod.mk.injEq] at h
 obtain⟨ov,h1,⟨e1,s1⟩,h2,h⟩:=h
 obtain⟨hde,h⟩:=fK h
 have hde:s1.ds=[]:=by simpa using hde
 simp only[Option.bind_eq_some_iff,Option.some.injEq,Prod.mk.injEq] at h
 obtain⟨outs1,h3,rfl,rfl,rfl,rfl⟩:=h
 obtain⟨_,k1⟩:=FJ h2 hc
 intro ts ds ht
 obtain⟨ts1,t1,p1,e1⟩:=k1 ts ds (ht.Qp h1)
 simp only[hde,List.nil_append] at e1
 exact⟨ts1,FN t1 h3,fun t hm=>p1 t (Ix hm),e1⟩
theorem NW {r:ResultVar}(hp:Nf P s r=some (v,s'))(hc:mD s'.cs):mD s.cs∧s'.ov=s.ov∧s'.st=s.st∧ ∀ ts,p9 N s.ov ts→xE P ts s.st r=some v:=by
 cases r with
 | tmp t =>
   simp only[Nf,Option.bind_eq_some_iff,Option.some.injEq,Prod.mk.injEq] at hp
   obtain⟨u,h1,rfl,rfl⟩:=hp
   exact⟨hc,rfl,rfl,fun ts ht=>by simp only[xE,ht.2 t _ h1]⟩
 | cell a t =>
   simp only[Nf,Option.bind_eq_some_iff] at hp
   obtain⟨p,h1,hp⟩:=hp
   split at hp
   ·simp only[Option.some.injEq,Prod.mk.injEq] at hp
    obtain⟨rfl,rfl⟩:=hp
    have:=hc.head
    exact⟨hc.tail,rfl,rfl,fun ts ht=>by simp only[xE,ht.2 a _ h1,this]⟩
   ·simp only[Option.bind_eq_some_iff,Option.some.injEq,Prod.mk.injEq] at hp
    obtain⟨u,h2,rfl,rfl⟩:=hp
    exact⟨hc,rfl,rfl,fun ts ht=>by simp only[xE,ht.2 a _ h1,h2]⟩
theorem Eo:∀{rs:List ResultVar} {vs:List AV} {s s':OS},DR P s rs=some (vs,s')→mD s'.cs→mD s.cs∧s'.ov=s.ov∧s'.st=s.st∧ ∀ ts,p9 N s.ov ts→pO P ts s.st rs=some vs
 | [], vs, s, s', hp, hc => by
   simp only[DR,Option.some.injEq,Prod.mk.injEq] at hp
   obtain⟨rfl,rfl⟩:=hp
   exact⟨hc,rfl,rfl,fun _ _=>rfl⟩
 | r :: rs, vs, s, s', hp, hc => by
   simp only[DR,Option.bind_eq_some_iff,Option.some.injEq,Prod.mk.injEq] at hp
   obtain⟨⟨v,s1⟩,h1,⟨ws,s2⟩,h2,rfl,rfl⟩:=hp
   obtain⟨c1,e1,e2,k2⟩:=Eo h2 hc
   obtain⟨c0,e3,e4,k1⟩:=NW (N:=N) h1 c1
   simp only at e1 e2 e3 e4 k1 k2
   refine⟨c0,e1.trans e3,e2.trans e4,fun ts ht=>?_⟩
   have h3:=k2 ts (by rw[e3]; exact ht)
   rw[e4] at h3
   simp only[pO,k1 ts ht,h3,Option.bind_some]
theorem IP:∀(args pre post:List AV),Has (pre ++ args ++ post).length (Ie pre.length args) (pre ++ args ++ post)
 | [],pre,post=>⟨rfl,fun _ h=>by cases h⟩
 | a :: args, pre, post => by
   have h:=IP args (pre ++ [a]) post
   simp only[List.append_assoc,List.singleton_append,List.length_append,List.length_cons,List.length_nil,Nat.zero_add,List.cons_append] at h ⊢
   refine⟨by simp,fun p hm=>?_⟩
   rcases List.mem_cons.1 hm with rfl | hm
   ·simp[List.getD]
   ·exact h.2 p hm
theorem KU:∀{ds:List oK} {s s':OS},Io ck ds s=some s'→mD s'.cs→mD s.cs∧s'.ov=s.ov∧ ∀ k,lL ck ds s.st k=k s'.st
 | [], s, s', h, hc => by
   simp only[Io,Option.some.injEq] at h
   subst h
   exact⟨hc,rfl,fun k=>rfl⟩
 | .mark _ :: ds,s,s',h,hc=>by simp only[Io] at h; cases h
 | .call g ks :: ds, s, s', h, hc => by
   simp only[Io] at h
   split at h
   ·obtain⟨c1,e1,k1⟩:=KU h hc
    refine⟨c1.tail,e1,fun k=>?_⟩
    have:=c1.head
    simp only[EN] at this
    simp only[lL,this,cond_true]
    exact k1 k
   ·cases h
theorem Jn {c:Code}{fn:Func}{ov:Tr AV}{st:St}{hs:List Hint}{args:List AV}{e:cE}{s1:OS}(hl:args.length≤fn.ntmps)(h4:BX fn.ntmps .leaf (Ie 0 args)=some ov):p9 fn.ntmps ov (IC fn.ntmps args):=by
 have h6:=IP args [] (List.replicate (fn.ntmps - args.length) AV.undef)
 simp only[List.nil_append,List.length_nil,List.length_append,List.length_replicate] at h6
 rw[show args.length+(fn.ntmps - args.length)=fn.ntmps by omega] at h6
 exact h6.Qp h4
theorem Hw {ext:Ext}{n:Nat}{hs:List Hint}{args:List AV}{st st':St}{cs:List Prop}
 (h:Mw C (aW C ext rounds n) f rounds hs args st=some (cs,v,st')) (hc:mD cs) (he:ext f args=none) (hm:C.Bu f args st=none):
 aR (aW C ext rounds (n+1)) false f args st v st':=by
 simp only[Mw,Option.bind_eq_some_iff] at h
 obtain⟨fn,h1,h⟩:=h
 obtain⟨h2,h⟩:=fK h
 simp only[Bool.or_eq_false_iff] at h2
 simp only[Option.bind_eq_some_iff] at h
 obtain⟨c,h3,ov,h4,⟨e,s1⟩,h5,h⟩:=h
 have hl:args.length≤fn.ntmps:=by
  have:=h2.2
  simp only[Nat.blt,Nat.ble_eq,Bool.eq_false_iff,ne_eq] at this
  omega
 have ht:=Jn (c:=c) (st:=st) (hs:=hs) (e:=e) (s1:=s1) hl h4
 have fin:(∀ i,e≠.exit i)→((Io (aW C ext rounds n) s1.ds s1).bind fun s=>(DR C.P s fn.results.toList).bind fun vs=>some (vs.2.cs,single vs.1,vs.2.st))=some (cs,v,st')→aR (aW C ext rounds (n+1)) false f args st v st':=by
  intro hne h
  simp only[Option.bind_eq_some_iff,Option.some.injEq,Prod.mk.injEq] at h
  obtain⟨s3,h0,⟨vs,s2⟩,h6,rfl,rfl,rfl⟩:=h
  obtain⟨c1,_,e3,h7⟩:=Eo (N:=fn.ntmps) h6 hc
  have e3:s2.st=s3.st:=e3
  obtain⟨c2,e4,k2⟩:=KU h0 c1
  obtain⟨_,k1⟩:=FJ h5 c2
  obtain⟨ts1,t1,_,e1⟩:=k1 _ [] ht
  simp only[List.append_nil] at e1
  have h8:=h7 ts1 (by rw[e4]; exact t1)
  refine⟨s1.ds.isEmpty,fun k=>?_⟩
  simp only[aW,he,hm,h1,h3,h2.1,cond_false,e1,e3]
  have fin2:rS C.P (aW C ext rounds n) fn ⟨ts1,s1.ds,s1.st⟩ k=k s1.ds.isEmpty (single vs) s3.st:=by
   simp only[rS,k2,h8]
  cases e with
  | normal=>exact fin2
  | exit i=>exact absurd rfl (hne i)
  | ret=>exact fin2
 cases e with
 | normal=>exact fin (fun i hh=>by cases hh) h
 | exit i=>simp only at h; cases h
 | ret=>exact fin (fun i hh=>by cases hh) h
theorem LZ {ext:Ext}{n:Nat}{hs:List Hint}{args:List AV}{st st':St}{cs:List Prop}
 (h:MW C (aW C ext rounds n) f rounds hs args st=some (cs,v,st')) (hc:mD cs) (he:ext f args=none) (hm:C.Bu f args st=none):
 EN (aW C ext rounds (n+1)) f args st v st':=by
 simp only[MW,Option.bind_eq_some_iff] at h
 obtain⟨fn,h1,h⟩:=h
 obtain⟨h2,h⟩:=fK h
 simp only[Bool.or_eq_false_iff] at h2
 simp only[Option.bind_eq_some_iff] at h
 obtain⟨c,h3,ov,h4,⟨e,s1⟩,h5,h⟩:=h
 have hl:args.length≤fn.ntmps:=by
  have:=h2.2
  simp only[Nat.blt,Nat.ble_eq,Bool.eq_false_iff,ne_eq] at this
  omega
 have ht:=Jn (c:=c) (st:=st) (hs:=hs) (e:=e) (s1:=s1) hl h4
 have fin:(∀ i,e≠.exit i)→(cond (!s1.ds.isEmpty) none<|(DR C.P s1 fn.results.toList).bind fun vs=>some (vs.2.cs,single vs.1,vs.2.st))=some (cs,v,st')→EN (aW C ext rounds (n+1)) f args st v st':=by
  intro hne h
  obtain⟨hde,h⟩:=fK h
  have hde:s1.ds=[]:=by simpa using hde
  simp only[Option.bind_eq_some_iff,Option.some.injEq,Prod.mk.injEq] at h
  obtain⟨⟨vs,s2⟩,h6,rfl,rfl,rfl⟩:=h
  obtain⟨c1,_,e3,h7⟩:=Eo (N:=fn.ntmps) h6 hc
  have e3:s2.st=s1.st:=e3
  obtain⟨_,k1⟩:=FJ h5 c1
  obtain⟨ts1,t1,_,e1⟩:=k1 _ [] ht
  simp only[List.append_nil,hde] at e1
  have h8:=h7 ts1 t1
  intro k
  simp only[aW,he,hm,h1,h3,h2.1,cond_false,e1,e3]
  have fin2:rS C.P (aW C ext rounds n) fn ⟨ts1,[],s1.st⟩ k=k true (single vs) s1.st:=by
   simp only[rS,lL,h8,List.isEmpty_nil]
  cases e with
  | normal=>exact fin2
  | exit i=>exact absurd rfl (hne i)
  | ret=>exact fin2
 cases e with
 | normal=>exact fin (fun i hh=>by cases hh) h
 | exit i=>simp only at h; cases h
 | ret=>exact fin (fun i hh=>by cases hh) h
def cE.Qw:cE→Bool
 | .normal=>true
 | _=>false
section
variable {body:Fr→(cE→Fr→Bool)→Bool}{mods:List Nat}{ins mid outs:List (Nat×AV)}{st st1 st':St}{e:cE}{r:Nat}
theorem cS (hb:jL N body mods ins st .normal mid st1)(h:jL N (jA body r) mods mid st1 e outs st'):jL N (jA body (r+1)) mods ins st e outs st':=by
 intro ts ds ht
 obtain⟨ts1,t1,p1,e1⟩:=hb ts ds ht
 obtain⟨ts2,t2,p2,e2⟩:=h ts1 ds t1
 exact⟨ts2,t2,fun t hm=>by rw[p2 t hm,p1 t hm],fun k=>by simp only[jA,e1,e2]⟩
theorem bI (hb:jL N body mods ins st e outs st')(hne:e.Qw=false):jL N (jA body (r+1)) mods ins st e outs st':=by
 intro ts ds ht
 obtain⟨ts1,t1,p1,e1⟩:=hb ts ds ht
 refine⟨ts1,t1,p1,fun k=>?_⟩
 simp only[jA,e1]
 cases e with
 | normal=>cases hne
 | exit i=>rfl
 | ret=>rfl
end
theorem bY {b:Code}{ins outs:List (Nat×AV)}{st st':St}{e:cE}(h:jL N (jA (fun fr k=>cZ C ck f rounds ro b fr k) rounds) (dI b) ins st e outs st'):
 jL N (cZ C ck f rounds ro (.loop b)) (dI (.loop b)) ins st e outs st':=fun ts ds ht=>by
 obtain⟨ts1,t1,p1,e1⟩:=h ts ds ht
 exact⟨ts1,t1,p1,fun k=>by simp only[cZ]; exact e1 k⟩
end
theorem kQ {C:AO}{ext:Ext}{rounds n:Nat}{f:FuncId}{args:List AV}{v:AV}(h:ext f args=some v)(st:St):aR (aW C ext rounds (n+1)) false f args st v st:=
 ⟨false,fun k=>by simp only[aW,h]⟩
theorem No {p:Prop}[Decidable p]{α:Type}{a b x:α}{G:Prop}(h:(if p then a else b)=x)(t:p→a=x→G)(f:¬p→b=x→G):G:=by
 by_cases hp:p
 ·rw[if_pos hp] at h; exact t hp h
 ·rw[if_neg hp] at h; exact f hp h
theorem MP {α β:Type}{o:Option α}{g:α→Option β}{x:β}{G:Prop}(h:o.bind g=some x)(t:∀ a,o=some a→g a=some x→G):G:=by
 obtain⟨a,h1,h2⟩:=Option.bind_eq_some_iff.1 h
 exact t a h1 h2
end Go.Ev
end
section
set_option linter.all false
namespace Go.Ev
def IU:List Nat→Code→Code
 | [],c=>c
 | 0 :: p,.seq a _=>IU p a
 | _ :: p,.seq _ b=>IU p b
 | 0 :: p,.cond _ a _=>IU p a
 | _ :: p,.cond _ _ b=>IU p b
 | _ :: p,.block _ b=>IU p b
 | _ :: p,.loop b=>IU p b
 | _ :: p,.scope b=>IU p b
 | _ :: _,c=>c
def dA (P : Program) (f : FuncId) (p : List Nat) : Code := match P.funcs[f]? with
 | some fn => match fn.body with
   | some c=>IU p c
   | none=>.skip
 | none=>.skip
def dN (k:IntKind)(v:AV):Option Int:=match v with
 | .int k' n=>if k=k' then some n else none
 | _=>none
theorem bE {k:IntKind}{v:AV}{n:Int}(h:dN k v=some n):v=.int k n:=by
 unfold dN at h
 split at h
 ·split at h
  ·rename_i e; subst e; rw[Option.some.inj h]
  ·cases h
 ·cases h
def zP (v:AV):Option Bool:=match v with
 | .bool b=>some b
 | _=>none
theorem BE {v:AV}{b:Bool}(h:zP v=some b):v=.bool b:=by
 unfold zP at h
 split at h
 ·rw[Option.some.inj h]
 ·cases h
def eY (v:AV):Option (List UInt8):=match v with
 | .str s=>some s
 | _=>none
theorem cC {v:AV}{s:List UInt8}(h:eY v=some s):v=.str s:=by
 unfold eY at h
 split at h
 ·rw[Option.some.inj h]
 ·cases h
def Ar (v:AV):Option Unit:=if v.one=true then some () else none
theorem rY {v:AV}{u:Unit}(h:Ar v=some u):v.cells=[v]:=by
 unfold Ar at h
 split at h
 ·rename_i e
  cases v <;> first | rfl | cases e
 ·cases h
theorem A1:([]:List (List AV))=[]:=rfl
theorem mB {a b:List AV}{l m:List (List AV)}(h:a=b)(t:l=m):a :: l=b :: m:=by rw[h,t]
theorem bF {b:Bool}(h:¬ b=true):b=false:=by cases b <;> simp_all
theorem eG {a b:Int}(h:a=b):(a == b)=true:=by simpa using h
theorem dP {a b:Int}(h:¬ a=b):(a == b)=false:=by simpa using h
theorem D5 {a b:Int}(h:¬ a=b):(a != b)=true:=by simpa using h
theorem Ax {a b:Int}(h:a=b):(a != b)=false:=by simpa using h
theorem yU:∀{a b:List UInt8},gT a b=true↔a=b
 | [],[]=>by simp[gT]
 | [],_ :: _=>by simp[gT]
 | _ :: _,[]=>by simp[gT]
 | x :: a, y :: b => by
   simp only[gT,Bool.and_eq_true,Nat.beq_eq,List.cons.injEq,yU (a:=a) (b:=b)]
   constructor
   ·rintro⟨h,rfl⟩; exact⟨UInt8.toNat_inj.1 h,rfl⟩
   ·rintro⟨rfl,rfl⟩; exact⟨rfl,rfl⟩
theorem dM {a b:List UInt8}(h:a=b):gT a b=true:=yU.2 h
theorem cL {a b:List UInt8}(h:¬ a=b):gT a b=false:=by
 cases e:gT a b with
 | false=>rfl
 | true=>exact absurd (yU.1 e) h
theorem wT {a b:List UInt8}(h:¬ a=b):(!gT a b)=true:=by rw[cL h]; rfl
theorem zO {a b:List UInt8}(h:a=b):(!gT a b)=false:=by rw[dM h]; rfl
theorem Nl {o:Option AV}{b:Bool}(h:o.bind zP=some b):o=some (.bool b):=by
 obtain⟨v,h1,h2⟩:=Option.bind_eq_some_iff.1 h
 rw[h1,BE h2]
theorem aU {p:Prop}[Decidable p]{α:Type}{a b x:α}{G:Prop}(t:p→a=x→G)(f:¬p→b=x→G):(if p then a else b)=x→G:=fun h=>No h t f
theorem aA {α β:Type}{o:Option α}{g:α→Option β}{x:β}{G:Prop}(t:∀ a,o=some a→g a=some x→G):o.bind g=some x→G:=fun h=>MP h t
theorem vF (k:IntKind)(n:Int):AV.beq (.int k n) (.int k n)=true:=by simp[AV.beq]
theorem tL (s:List UInt8):AV.beq (.str s) (.str s)=true:=by simp[AV.beq,yU]
theorem EJ (b:Bool):AV.beq (.bool b) (.bool b)=true:=by simp[AV.beq]
def zK (s:List UInt8)(i:Int):Option Int:=match i with
 | .ofNat k=>(s[k]?).bind fun b=>some (b.toNat:Int)
 | .negSucc _=>none
theorem gE {P:Program}{t:TypeId}{s:List UInt8}{i v:Int}{k:IntKind}(ht:P.underlying t=some .string)(h:zK s i=some v):Ct P t (.str s) (.int k i)=some (.int .u8 v):=by
 unfold zK at h
 unfold Ct
 simp only[ht,Option.bind_some,intOf]
 split at h
 ·obtain⟨b,h1,h2⟩:=Option.bind_eq_some_iff.1 h
  simp only[h1,Option.bind_some,← Option.some.inj h2]
 ·cases h
def lB (a b:List UInt8):Option (List UInt8):=if a.length+b.length≤9223372036854775807 then some (a ++ b) else none
theorem fV {a b s:List UInt8}(h:lB a b=some s):Aq .add a b=some (.str s):=by
 unfold lB at h
 split at h
 ·rename_i e
  simp only[Aq,Nat.ble_eq_true_of_le e,cond_true,Option.some.inj h]
 ·cases h
def Bn (s:List UInt8)(lo hi:Int):Option (List UInt8):=match lo,hi with
 | .ofNat l,.ofNat h=>if l≤h∧h≤s.length then some ((s.take h).drop l) else none
 | _,_=>none
theorem EV {s r:List UInt8}{lo hi:Int}(h:Bn s lo hi=some r):∃ l k:Nat,lo=l∧hi=k∧l≤k∧k≤s.length∧r=(s.take k).drop l:=by
 unfold Bn at h
 split at h
 ·split at h
  ·rename_i e
   exact⟨_,_,rfl,rfl,e.1,e.2,(Option.some.inj h).symm⟩
  ·cases h
 ·cases h
theorem vL {k:IntKind}{a n:Nat}(h:a≤n):within (.int k (a:Int)) n=some a:=by
 show cond (Nat.ble a n) (some a) none=_
 rw[Nat.ble_eq_true_of_le h]; rfl
theorem GI {P:Program}{t:TypeId}{s r:List UInt8}{lo hi:Int}{k k':IntKind}(ht:P.underlying t=some .string)(h:Bn s lo hi=some r):rW P t (.str s) (some (.int k lo)) (some (.int k' hi)) none=some (.str r):=by
 obtain⟨l,m,rfl,rfl,h1,h2,rfl⟩:=EV h
 simp only[rW,ht,Option.bind_some,bounds,Af,FB,Fe,vL h2,vL h1]
theorem Hu {P:Program}{t:TypeId}{s r:List UInt8}{lo:Int}{k:IntKind}(ht:P.underlying t=some .string)(h:Bn s lo (s.length:Nat)=some r):rW P t (.str s) (some (.int k lo)) none none=some (.str r):=by
 obtain⟨l,m,rfl,e,h1,h2,rfl⟩:=EV h
 obtain rfl:s.length=m:=by exact_mod_cast e
 simp only[rW,ht,Option.bind_some,bounds,Af,FB,Fe,vL h1]
theorem OV {P:Program}{t:TypeId}{s r:List UInt8}{hi:Int}{k':IntKind}(ht:P.underlying t=some .string)(h:Bn s 0 hi=some r):rW P t (.str s) none (some (.int k' hi)) none=some (.str r):=by
 obtain⟨l,m,e,rfl,h1,h2,rfl⟩:=EV h
 obtain rfl:0=l:=by exact_mod_cast e
 simp only[rW,ht,Option.bind_some,bounds,Af,FB,Fe,vL h2]
def strOf (st:St)(v:AV):Option (List UInt8):=(lenOf v).bind fun n=>(eD st n v 1).bind fun cs=>bytesOf cs
theorem qB {st:St}{v:AV}{l:List UInt8}(h:strOf st v=some l):((lenOf v).bind fun n=>(eD st n v 1).bind fun cs=>(bytesOf cs).bind fun l=>some (AV.str l))=some (.str l):=by
 obtain⟨n,h1,h⟩:=Option.bind_eq_some_iff.1 h
 obtain⟨cs,h2,h3⟩:=Option.bind_eq_some_iff.1 h
 simp only[h1,h2,h3,Option.bind_some]
theorem cV {P:Program}{t e:TypeId}{v:AV}{n:Nat}(ht:P.underlying t=some (.slice e))(h:lenOf v=some n):gC P [v] (.call ⟨.builtin .len,#[.tmp 0],#[t]⟩)=some (.int .i64 (n:Int)):=by
 have h0:cU [v] (#[Operand.tmp 0]:Array Operand).toList=some [v]:=rfl
 cases v <;> first | (cases h; done) | (obtain rfl:=Option.some.inj h; simp only[gC,h0,Option.bind_some,List.getElem?_toArray,List.getElem?_cons_zero,ht] <;> rfl)
theorem cB {x v:AV}(h:aZ x=some v):aZ x=some x:=by
 unfold aZ at h ⊢
 split at h <;> first | rfl | cases h
theorem aN {o:Option St}{st:St}(h:o=some st):(o.bind fun st'=>some (AV.undef,st'))=some (AV.undef,st):=by rw[h]; rfl
def eV (o:Option ((Nat→AV)×gS))(st:St):Option (AV×St):=o.bind fun x=>some (x.1 st.next,st.push x.2)
def oQ (t:TypeId)(v:AV)(st:St):Option (AV×St):=if v.cells.all AV.one=true then some (.ref st.next 0,st.push (.cells t true v.cells)) else none
theorem pE {t:TypeId}{v x:AV}{st st':St}(h:oQ t v st=some (x,st')):
 (Option.bind (cond (v.cells.all AV.one) (some ((fun id=>AV.ref id 0:Nat→AV),gS.cells t true v.cells)) none) fun y=>some (y.1 st.next,st.push y.2))=some (x,st'):=by
 unfold oQ at h
 split at h
 ·rename_i e; rw[e]; exact h
 ·cases h
def C5 (e:TypeId)(s:List UInt8):Option ((Nat→AV)×gS):=cond (Nat.ble s.length iL) (some (fun id=>.j9 id 0 s.length 1 none,.cells e false (s.map fun b=>.int .u8 b.toNat))) none
def QU (k:IntKind)(a b:Int):Int:=k.wrap ((BitVec.ofInt k.bits a ||| BitVec.ofInt k.bits b).toNat)
def PE (k:IntKind)(a b:Int):Int:=k.wrap ((BitVec.ofInt k.bits a ^^^ BitVec.ofInt k.bits b).toNat)
theorem jQ {X:Option AV}{y v:AV}(h:X=some y)(hb:AV.beq y v=true):X=some v∧AV.beq v v=true:=by
 have e:=AV.BB _ _ hb
 subst e
 exact⟨h,hb⟩
end Go.Ev
end
section
set_option linter.all false
namespace Go.Ev
theorem wrap64 {n:Int}(h1:-9223372036854775808≤n)(h2:n≤9223372036854775807):IntKind.wrap .i64 n=n:=by
 unfold IntKind.wrap
 simp only[IntKind.bits,IntKind.signed,Bool.true_and,decide_eq_true_eq,show((2:Int) ^ 64)=18446744073709551616 from rfl,show((2:Int) ^ (64 - 1))=9223372036854775808 from rfl]
 split <;> omega
theorem MV (s:List UInt8)(k:Nat):zK s (k:Int)=(s[k]?).map fun b=>(b.toNat:Int):=by
 show(match(Int.ofNat k:Int) with | .ofNat k=>(s[k]?).bind fun b=>some (b.toNat:Int) | .negSucc _=>none)=_
 simp only[Int.ofNat_eq_natCast]
 cases h:s[k]? <;> simp[h]
theorem tG {s:List UInt8}{k:Nat}(h:k<s.length):zK s (k:Int)=some ((s[k].toNat:Nat):Int):=by
 rw[MV,List.getElem?_eq_getElem h]; rfl
theorem An {s:List UInt8}{a b:Nat}(h1:a≤b)(h2:b≤s.length):Bn s (a:Int) (b:Int)=some ((s.take b).drop a):=by
 show(if a≤b∧b≤s.length then some ((s.take b).drop a) else none)=_
 rw[if_pos ⟨h1,h2⟩]
theorem lS {a b:List UInt8}(h:a.length+b.length≤9223372036854775807):lB a b=some (a ++ b):=by
 unfold lB; rw[if_pos h]
class xO (P:Program) (t:TypeId) (sz:outParam Nat):Prop where
 ok:∃ e bs z,P.underlying t=some (.slice e)∧size? P e=some sz∧bytes? P e=some bs∧v7 P e=some z∧bs≤4096∧0<sz∧z.cells.length=sz∧z.cells.all AV.one=true
class nT (P:Program) (t:TypeId) (g:outParam Bool) (n:outParam Nat):Prop where
 agg:NA P t=some g
 size:size? P t=some n
def Sl (st:St)(sz:Nat)(x:AV)(cells:List AV):Prop:=
 (x=.aF∧cells=[])∨ ∃ id e len cap,x=.sl id e len sz cap cells∧cells.length=len * sz∧id<st.next∧(cap=some len∨cap=none∧st.aS.get id=some (.nE e))
def mV (st st':St)(but:Nat→Prop):Prop:=st.next≤st'.next∧ ∀ id,id<st.next→ ¬ but id→st'.aS.get id=st.aS.get id
theorem mV.refl (st:St)(but:Nat→Prop):mV st st but:=⟨Nat.le_refl _,fun _ _ _=>rfl⟩
theorem mV.trans {a b c:St}{p:Nat→Prop}(h:mV a b p)(k:mV b c p):mV a c p:=
 ⟨Nat.le_trans h.1 k.1,fun id hi hn=>(k.2 id (Nat.lt_of_lt_of_le hi h.1) hn).trans (h.2 id hi hn)⟩
theorem mV.push (st:St)(o:gS)(p:Nat→Prop):mV st (st.push o) p:=
 ⟨Nat.le_succ _,fun id hi _=>by simp only[St.push,Tr.bP]; rw[if_neg (by omega)]⟩
def eL:AV→Nat→Prop
 | .sl id ..,i=>i=id
 | _,_=>False
theorem Sl.push {st:St}{sz:Nat}{x:AV}{cells:List AV}(h:Sl st sz x cells)(o:gS):Sl (st.push o) sz x cells:=by
 rcases h with h | ⟨id,e,len,cap,rfl,h1,h2,h3⟩
 ·exact .inl h
 ·refine .inr ⟨id,e,len,cap,rfl,h1,Nat.lt_succ_of_lt h2,?_⟩
  rcases h3 with h3 | ⟨h3,h4⟩
  ·exact .inl h3
  ·exact .inr ⟨h3,by simp only[St.push,Tr.bP]; rw[if_neg (by omega)]; exact h4⟩
theorem Sl.keeps {st st':St}{sz:Nat}{x:AV}{cells:List AV}{p:Nat→Prop}(h:Sl st sz x cells)(k:mV st st' p)(hp:∀ id,eL x id→ ¬ p id):Sl st' sz x cells:=by
 rcases h with h | ⟨id,e,len,cap,rfl,h1,h2,h3⟩
 ·exact .inl h
 ·refine .inr ⟨id,e,len,cap,rfl,h1,Nat.lt_of_lt_of_le h2 k.1,?_⟩
  rcases h3 with h3 | ⟨h3,h4⟩
  ·exact .inl h3
  ·exact .inr ⟨h3,by rw[k.2 id h2 (hp id rfl)]; exact h4⟩
theorem Sl.nil (st:St)(sz:Nat):Sl st sz .aF []:=.inl ⟨rfl,rfl⟩
theorem eW {α:Type}{c:Bool}{x y:α}(h:c=true):cond c x y=x:=by rw[h]; rfl
theorem tR {α:Type}{c:Bool}{x y:α}(h:c=false):cond c x y=y:=by rw[h]; rfl
theorem zJ {P:Program}{t:TypeId}{sz:Nat}[T:xO P t sz]{v:AV}(st:St)(hl:v.cells.length=sz)(h1:v.cells.all AV.one=true)(hs:sz≤16777216):
 eV (aY P false t 1 [(0,v)]) st=some (.sl st.next sz 1 sz (some 1) v.cells,st.push (.nE sz)):=by
 obtain⟨e,bs,z,t1,t2,t3,t4,t5,t6,t7,t8⟩:=T.ok
 have c1:Nat.ble (1 * sz) 16777216=true:=Nat.ble_eq_true_of_le (by omega)
 have c2:Nat.beq z.cells.length sz=true:=by rw[t7]; exact Nat.beq_refl sz
 have c3:Nat.beq sz 0=false:=by cases sz with
  | zero=>exact absurd t6 (Nat.lt_irrefl 0)
  | succ n=>rfl
 have c4:(!(Nat.ble (1 * sz) 16777216 && Nat.beq z.cells.length sz && !Nat.beq sz 0))=false:=by rw[c1,c2,c3]; rfl
 have c5:(Nat.beq sz sz && Nat.ble (0 * sz+sz) (cW z.cells 1).length)=true:=by
  rw[Nat.beq_refl,Bool.true_and]
  refine Nat.ble_eq_true_of_le ?_
  simp[cW,t7]
 have c6:dJ (cW z.cells 1) (0 * sz) v.cells=v.cells:=by
  simp only[dJ,cW,List.append_nil,Nat.zero_mul,List.take_zero,List.nil_append,Nat.zero_add]
  rw[List.drop_eq_nil_of_le (by rw[t7,hl]; exact Nat.le_refl _),List.append_nil]
 simp only[eV,aY,t1,t2,t4,Option.bind_some,tR c4,pY,hl,eW c5,c6,eW h1,eS]
theorem Hq {st:St}{sz:Nat}{x:AV}{cells:List AV}(h:Sl st sz x cells)(hz:0<sz):lenOf x=some (cells.length / sz):=by
 rcases h with⟨rfl,rfl⟩ | ⟨id,e,len,cap,rfl,h1,h2,h3⟩
 ·simp[lenOf]
 ·simp only[lenOf]; rw[h1,Nat.mul_div_cancel _ hz]
theorem NZ {P : Program} {t : TypeId} {sz : Nat} [T : xO P t sz] {st : St} {x : AV} {cells new : List AV} {j : Nat} {e' : Nat} {c' : Option Nat} (h : Sl st sz x cells) (hl : new.length = sz) (h1 : new.all AV.one = true) (hn : cells.length ≤ iL) :
 ∃ x' st',cX P false st #[t,t] x (.sl j e' 1 sz c' new)=some (x',st')∧Sl st' sz x' (cells ++ new)∧mV st st' (eL x)∧(∀ id,eL x' id→eL x id∨st.next≤id):=by
 obtain⟨e,bs,z,t1,t2,t3,t4,t5,t6,t7,t8⟩:=T.ok
 have q1:Nat.beq t t=true:=Nat.beq_refl t
 have q2:(Nat.ble 1 1 && Nat.beq sz sz)=true:=by rw[Nat.beq_refl]; rfl
 have q3:range? new 0 (1 * sz)=some new:=by
  unfold range?
  rw[eW (Nat.ble_eq_true_of_le (by omega)),List.drop_zero,List.take_of_length_le (by omega)]
 have c1:Nat.beq sz 0=false:=by cases sz with
  | zero=>exact absurd t6 (Nat.lt_irrefl 0)
  | succ n=>rfl
 have c2:Nat.ble 1 iL=true:=rfl
 have c3:Nat.ble bs 4096=true:=Nat.ble_eq_true_of_le t5
 have c4:Nat.beq z.cells.length sz=true:=by rw[t7]; exact Nat.beq_refl sz
 have c5:(!(new.all AV.one && Nat.ble 1 iL && Nat.ble bs 4096 && !Nat.beq sz 0 && Nat.beq z.cells.length sz))=false:=by rw[h1,c1,c2,c3,c4]; rfl
 have b0:Nat.beq 1 0=false:=rfl
 have base:∀(q:AV),cX P false st #[t,t] q (.sl j e' 1 sz c' new)=(match q with
  | .aF=>cond (Nat.beq 1 0) (some (.aF,st)) (some (st.Ih (eS false e 1 sz none new)))
  | .sl id e len sz' cap cs =>
    cond (Nat.beq 1 0) (some (q,st))<|cond (!(Nat.ble len iL && Nat.beq sz sz')) none<|
    cond (cap.any fun c=>Nat.blt c (len+1)) (some (st.Ih (eS false e (len+1) sz none (cs ++ new))))<|
    match st.aS.get id with
    | some (.nE h)=>cond (Nat.beq h e && !false) (some (.sl id (e+new.length) (len+1) sz cap (cs ++ new),st.put id (.nE (e+new.length)))) none
    | _=>none
  | q=>cX P false st #[t,t] q (.sl j e' 1 sz c' new)):=by
  intro q
  cases q <;> first | rfl | (simp only[cX,t1,t2,t3,t4,Option.bind_some,A4,lenOf,qH,eW q1,eD,eW q2,q3,tR c5]; try rfl)
 rcases h with⟨rfl,rfl⟩ | ⟨id,e0,len,cap,rfl,h2,h3,h4⟩
 ·refine⟨.sl st.next new.length 1 sz none new,st.push (.nE new.length),?_,.inr ⟨_,_,_,_,rfl,by rw[List.nil_append,hl,Nat.one_mul],Nat.lt_succ_self _,.inr ⟨rfl,by simp[St.push,Tr.bP]⟩⟩,mV.push st _ _,fun id hi=>.inr (by rw[show id=st.next from hi]; exact Nat.le_refl _)⟩
  rw[base]; rfl
 ·have hlen:len≤iL:=by
   have:len * 1≤len * sz:=Nat.mul_le_mul_left _ t6
   omega
  have d1:(!(Nat.ble len iL && Nat.beq sz sz))=false:=by rw[Nat.ble_eq_true_of_le hlen,Nat.beq_refl]; rfl
  rcases h4 with rfl | ⟨rfl,h4⟩
  ·have d2:Option.any (fun c=>Nat.blt c (len+1)) (some len)=true:=by
    show Nat.ble (len+1) (len+1)=true
    exact Nat.ble_eq_true_of_le (Nat.le_refl _)
   refine⟨.sl st.next (cells ++ new).length (len+1) sz none (cells ++ new),st.push (.nE (cells ++ new).length),?_,.inr ⟨_,_,_,_,rfl,by rw[List.length_append,h2,hl,Nat.succ_mul],Nat.lt_succ_self _,.inr ⟨rfl,by simp[St.push,Tr.bP]⟩⟩,mV.push st _ _,fun id hi=>.inr (by rw[show id=st.next from hi]; exact Nat.le_refl _)⟩
   rw[base]
   simp only[b0,cond_false,tR d1,eW d2]
   rfl
  ·have d3:(Nat.beq e0 e0 && !false)=true:=by rw[Nat.beq_refl]; rfl
   refine⟨.sl id (e0+new.length) (len+1) sz none (cells ++ new),st.put id (.nE (e0+new.length)),?_,.inr ⟨_,_,_,_,rfl,by rw[List.length_append,h2,hl,Nat.succ_mul],h3,.inr ⟨rfl,by simp[St.put,Tr.bP]⟩⟩,⟨Nat.le_refl _,fun i hi hn=>?_⟩,fun i hi=>.inl hi⟩
   ·rw[base]
    simp only[b0,cond_false,tR d1,Option.any_none,h4,eW d3]
   ·simp only[St.put,Tr.bP]
    exact if_neg fun e:i=id=>hn e
theorem OT {P:Program}{t:TypeId}{sz:Nat}[T:xO P t sz]{st:St}{x v:AV}{cells:List AV}{α:Type}(k:AV×St→Option α)(h:Sl st sz x cells)(hl:v.cells.length=sz)(h1:v.cells.all AV.one=true)(hn:cells.length≤iL)(hs:sz≤16777216):
 ∃ x' st',((eV (aY P false t 1 [(0,v)]) st).bind fun p=>(cX P false p.2 #[t,t] x p.1).bind k)=k (x',st')∧Sl st' sz x' (cells ++ v.cells)∧mV st st' (eL x)∧(∀ id,eL x' id→eL x id∨st.next≤id):=by
 obtain⟨x',st',k1,k2,k3,k4⟩:=NZ (P:=P) (t:=t) (j:=st.next) (e':=sz) (c':=some 1) (h.push (.nE sz)) hl h1 hn
 refine⟨x',st',?_,k2,(mV.push st (.nE sz) (eL x)).trans k3,fun id hi=>(k4 id hi).imp (fun h=>h) fun h=>?_⟩
 ·rw[zJ st hl h1 hs,Option.bind_some,k1,Option.bind_some]
 ·simp only[St.push] at h; omega
def Row (sz:Nat)(x:AV)(cells:List AV):Prop:=(x=.aF∧cells=[])∨ ∃ id e len cap,x=.sl id e len sz cap cells∧cells.length=len * sz
theorem Sl.row {st:St}{sz:Nat}{x:AV}{cells:List AV}(h:Sl st sz x cells):Row sz x cells:=by
 rcases h with h | ⟨id,e,len,cap,h1,h2,_,_⟩
 ·exact .inl h
 ·exact .inr ⟨id,e,len,cap,h1,h2⟩
theorem sO {sz:Nat}{x:AV}{cells:List AV}(h:Row sz x cells)(hz:0<sz):lenOf x=some (cells.length / sz):=by
 rcases h with⟨rfl,rfl⟩ | ⟨id,e,len,cap,rfl,h1⟩
 ·simp[lenOf]
 ·simp only[lenOf]; rw[h1,Nat.mul_div_cancel _ hz]
theorem mM {P:Program}{t:TypeId}{sz:Nat}[T:xO P t sz]{x:AV}{cells:List AV}{k:IntKind}{i:Nat}(h:Row sz x cells)(hi:i * sz<cells.length):bA P t x (.int k (i:Int))=some (.pM (cells.drop (i * sz))):=by
 obtain⟨e,bs,z,t1,t2,t3,t4,t5,t6,t7,t8⟩:=T.ok
 rcases h with⟨rfl,rfl⟩ | ⟨id,e0,len,cap,rfl,h2⟩
 ·simp at hi
 ·have hlt:i<len:=by
   rw[h2] at hi
   exact Nat.lt_of_mul_lt_mul_right hi
  have c1:(Nat.blt i len && Nat.beq sz sz)=true:=by
   rw[Nat.beq_refl,Bool.and_true]
   exact Nat.ble_eq_true_of_le hlt
  show(P.underlying t).bind _=_
  rw[t1]
  show(size? P e).bind _=_
  rw[t2]
  show cond _ _ _=_
  rw[eW c1]
  show cond _ _ _=_
  rw[eW (Nat.ble_eq_true_of_le (Nat.le_of_lt hi))]
theorem NX {P:Program}{t:TypeId}{sz:Nat}[T:xO P t sz]{st:St}{x:AV}{cells:List AV}{k:IntKind}{i:Nat}(h:Sl st sz x cells)(hi:i * sz<cells.length):bA P t x (.int k (i:Int))=some (.pM (cells.drop (i * sz))):=mM h.row hi
theorem Em {P:Program}{t:TypeId}[T:nT P t false 1]{st:St}{c:AV}{cs:List AV}:loadAt P st t (.pM (c :: cs))=some c:=by
 simp only[loadAt,T.agg,T.size,Option.bind_some,cond_false,tA,range?]
 rw[eW (Nat.ble_eq_true_of_le (by simp))]
 rfl
theorem Hm {P:Program}{t:TypeId}{n:Nat}[T:nT P t true n]{st:St}{cs:List AV}(h:n≤cs.length):loadAt P st t (.pM cs)=some (.agg (cs.take n)):=by
 simp only[loadAt,T.agg,T.size,Option.bind_some,cond_true,tA,range?]
 rw[eW (Nat.ble_eq_true_of_le (by omega))]
 rfl
theorem i7 (st:St)(id:Nat)(o:gS):(st.put id o).aS.get id=some o:=by simp[St.put,Tr.bP]
theorem A7 {st:St}{id j:Nat}(o:gS)(h:j≠id):(st.put id o).aS.get j=st.aS.get j:=by simp[St.put,Tr.bP,h]
theorem mZ (st:St)(o:gS):(st.push o).aS.get st.next=some o:=by simp[St.push,Tr.bP]
theorem xZ {st:St}{j:Nat}(o:gS)(h:j≠st.next):(st.push o).aS.get j=st.aS.get j:=by simp[St.push,Tr.bP,h]
section
variable {P:Program}{T:TypeId}{st:St}{id off n:Nat}{t:TypeId}{u:Bool}{cs new:List AV}{c v:AV}
theorem DD [L:nT P T false 1](h:st.aS.get id=some (.cells t u cs))(hc:cs[off]? =some c):loadAt P st T (.ref id off)=some c:=by
 have hl:off<cs.length:=(List.getElem?_eq_some_iff.1 hc).1
 simp only[loadAt,L.agg,L.size,Option.bind_some,cond_false,tA,h,range?]
 rw[eW (Nat.ble_eq_true_of_le (by omega)),List.drop_eq_getElem_cons hl,Option.bind_some]
 have:cs[off]=c:=(List.getElem?_eq_some_iff.1 hc).2
 simp[shaped,this]
theorem xF [L:nT P T true n](h:st.aS.get id=some (.cells t u cs))(hn:cs.length=n):loadAt P st T (.ref id 0)=some (.agg cs):=by
 simp only[loadAt,L.agg,L.size,Option.bind_some,cond_true,tA,h,range?]
 rw[eW (Nat.ble_eq_true_of_le (by omega)),List.drop_zero,List.take_of_length_le (by omega)]
 rfl
theorem Bj [L:nT P T false 1](h:st.aS.get id=some (.cells t u cs))(hl:off<cs.length)(hv:v.one=true)(hc:v.cells=[v]):storeAt P st T (.ref id off) v=some (st.put id (.cells t u (cs.set off v))):=by
 simp only[storeAt,L.size,Option.bind_some,hc]
 have c1:(Nat.beq [v].length 1 && [v].all AV.one)=true:=by simp[hv]
 rw[eW c1]
 simp only[iH,h]
 rw[eW (Nat.ble_eq_true_of_le (by simp; omega))]
 simp only[dJ,List.length_cons,List.length_nil]
 rw[List.set_eq_take_append_cons_drop,if_pos hl]
 simp
theorem B2 [L:nT P T true n](h:st.aS.get id=some (.cells t u cs))(hn:cs.length=n)(hm:new.length=n)(ho:new.all AV.one=true):storeAt P st T (.ref id 0) (.agg new)=some (st.put id (.cells t u new)):=by
 simp only[storeAt,L.size,Option.bind_some,AV.cells]
 have c1:(Nat.beq new.length n && new.all AV.one)=true:=by rw[hm,ho,Nat.beq_refl]; rfl
 rw[eW c1]
 simp only[iH,h]
 rw[eW (Nat.ble_eq_true_of_le (by omega))]
 simp only[dJ,List.take_zero,List.nil_append,Nat.zero_add]
 rw[List.drop_eq_nil_of_le (by omega),List.append_nil]
end
def Sr (st:St)(sz:Nat)(x:AV)(room:Nat)(cells:List AV):Prop:=
 ∃ id len t u cs,x=.j9 id 0 len sz (some room)∧st.aS.get id=some (.cells t u cs)∧cs.length=room * sz∧len≤room∧cells=cs.take (len * sz)∧id<st.next
theorem Sr.push {st:St}{sz:Nat}{x:AV}{room:Nat}{cells:List AV}(h:Sr st sz x room cells)(o:gS):Sr (st.push o) sz x room cells:=by
 obtain⟨id,len,t,u,cs,rfl,h1,h2,h3,rfl,h4⟩:=h
 exact⟨id,len,t,u,cs,rfl,by simp only[St.push,Tr.bP]; rw[if_neg (by omega)]; exact h1,h2,h3,rfl,Nat.lt_succ_of_lt h4⟩
theorem FH (z:List AV):∀ n,(cW z n).length=n * z.length
 | 0=>by simp[cW]
 | n+1=>by simp[cW,FH z n,Nat.succ_mul,Nat.add_comm]
theorem NJ {P:Program}{t:TypeId}{sz:Nat}[T:xO P t sz]{k k':IntKind}{c:Nat}(st:St)(hc:c≤iL):
 ∃ x st',eV (pB P t (.int k 0) (.int k' (c:Int))) st=some (x,st')∧Sr st' sz x c []∧mV st st' (fun _=>False):=by
 obtain⟨e,bs,z,t1,t2,t3,t4,t5,t6,t7,t8⟩:=T.ok
 have c3:Nat.beq sz 0=false:=by cases sz with
  | zero=>exact absurd t6 (Nat.lt_irrefl 0)
  | succ n=>rfl
 have c1:(Nat.ble 0 c && Nat.ble c iL && Nat.ble bs 4096 && Nat.beq z.cells.length sz && !Nat.beq sz 0 && z.cells.all AV.one)=true:=by
  rw[Nat.ble_eq_true_of_le (Nat.zero_le _),Nat.ble_eq_true_of_le hc,Nat.ble_eq_true_of_le t5,t7,Nat.beq_refl,c3,t8]; rfl
 have e1:pB P t (.int k 0) (.int k' (c:Int))=some (fun id=>.j9 id 0 0 sz (some c),.cells e true (cW z.cells c)):=by
  show(P.underlying t).bind _=_
  rw[t1]
  show(size? P e).bind _=_
  rw[t2]
  show(bytes? P e).bind _=_
  rw[t3]
  show(v7 P e).bind _=_
  rw[t4]
  show cond _ _ _=_
  rw[eW c1]
 refine⟨.j9 st.next 0 0 sz (some c),st.push (.cells e true (cW z.cells c)),?_,⟨_,_,_,_,_,rfl,by simp[St.push,Tr.bP]; exact⟨rfl,rfl,rfl⟩,by rw[FH,t7],Nat.zero_le _,by simp,Nat.lt_succ_self _⟩,mV.push st _ _⟩
 simp only[eV,e1,Option.bind_some]
theorem On {P:Program}{t:TypeId}{sz:Nat}[T:xO P t sz]{st:St}{x v:AV}{room:Nat}{cells:List AV}{α:Type}(k:AV×St→Option α)(h:Sr st sz x room cells)(hl:v.cells.length=sz)(h1:v.cells.all AV.one=true)(hn:cells.length<room * sz)(hr:room≤iL)(hs:sz≤16777216):
 ∃ x' st',((eV (aY P false t 1 [(0,v)]) st).bind fun p=>(cX P false p.2 #[t,t] x p.1).bind k)=k (x',st')∧Sr st' sz x' room (cells ++ v.cells):=by
 rw[zJ st hl h1 hs,Option.bind_some]
 have h':=h.push (.nE sz)
 generalize hst:st.push (.nE sz)=st1 at h'
 obtain⟨id,len,tt,u,cs,rfl,g1,g2,g3,rfl,g4⟩:=h'
 obtain⟨e,bs,z,t1,t2,t3,t4,t5,t6,t7,t8⟩:=T.ok
 have hlt:len<room:=by
  rw[List.length_take,g2] at hn
  rcases Nat.lt_or_ge len room with h | h
  ·exact h
  ·have:room * sz≤len * sz:=Nat.mul_le_mul_right _ h
   omega
 have hle:(len+1) * sz≤room * sz:=Nat.mul_le_mul_right _ hlt
 rw[Nat.succ_mul] at hle
 have q1:Nat.beq t t=true:=Nat.beq_refl t
 have q2:(Nat.ble 1 1 && Nat.beq sz sz)=true:=by rw[Nat.beq_refl]; rfl
 have q3:range? v.cells 0 (1 * sz)=some v.cells:=by
  unfold range?
  rw[eW (Nat.ble_eq_true_of_le (by omega)),List.drop_zero,List.take_of_length_le (by omega)]
 have c1:Nat.beq sz 0=false:=by cases sz with
  | zero=>exact absurd t6 (Nat.lt_irrefl 0)
  | succ n=>rfl
 have c5:(!(v.cells.all AV.one && Nat.ble 1 iL && Nat.ble bs 4096 && !Nat.beq sz 0 && Nat.beq z.cells.length sz))=false:=by
  rw[h1,c1,Nat.ble_eq_true_of_le t5,t7,Nat.beq_refl]; rfl
 have d1:(!(Nat.ble len iL && Nat.beq sz sz))=false:=by rw[Nat.ble_eq_true_of_le (by omega),Nat.beq_refl]; rfl
 have d2:Nat.ble (len+1) room=true:=Nat.ble_eq_true_of_le hlt
 have d3:Nat.ble (0+len * sz+v.cells.length) cs.length=true:=Nat.ble_eq_true_of_le (by rw[hl,g2]; omega)
 refine⟨.j9 id 0 (len+1) sz (some room),st1.put id (.cells tt u (dJ cs (0+len * sz) v.cells)),?_,⟨_,_,_,_,_,rfl,by simp[St.put,Tr.bP]; exact⟨rfl,rfl,rfl⟩,?_,hlt,?_,by simpa[St.put] using g4⟩⟩
 ·have e1:cX P false st1 #[t,t] (.j9 id 0 len sz (some room)) (.sl st.next sz 1 sz (some 1) v.cells)=some (.j9 id 0 (len+1) sz (some room),st1.put id (.cells tt u (dJ cs (0+len * sz) v.cells))):=by
   simp only[cX,t1,t2,t3,t4,Option.bind_some,A4,lenOf,qH,eW q1,eD,eW q2,q3,tR c5,show Nat.beq 1 0=false from rfl,cond_false,tR d1,eW d2,iH,g1,eW d3]
  show(cX P false st1 #[t,t] (.j9 id 0 len sz (some room)) (.sl st.next sz 1 sz (some 1) v.cells)).bind k=_
  rw[e1,Option.bind_some]
 ·simp only[dJ,List.length_append,List.length_take,List.length_drop,g2,hl]
  omega
 ·simp only[dJ,Nat.zero_add]
  have e:(len+1) * sz=(cs.take (len * sz) ++ v.cells).length:=by
   rw[List.length_append,List.length_take,g2,hl,Nat.succ_mul]; omega
  rw[e,List.take_left]
theorem IA {st:St}{x:AV}{room:Nat}{l:List UInt8}(h:Sr st 1 x room (l.map fun b=>.int .u8 (b.toNat:Int)))(hb:bytesOf (l.map fun b=>.int .u8 (b.toNat:Int))=some l):strOf st x=some l:=by
 obtain⟨id,len,t,u,cs,rfl,h1,h2,h3,h4,h5⟩:=h
 show(eD st len (.j9 id 0 len 1 (some room)) 1).bind _=_
 have c1:(Nat.ble len len && Nat.beq 1 1)=true:=by rw[Nat.ble_eq_true_of_le (Nat.le_refl _)]; rfl
 simp only[eD,h1,eW c1,range?]
 rw[eW (Nat.ble_eq_true_of_le (by omega)),List.drop_zero,← h4]
 exact hb
def eO (l:List UInt8):List AV:=l.map fun b=>.int .u8 (b.toNat:Int)
theorem oG:∀ l:List UInt8,bytesOf (eO l)=some l
 | []=>rfl
 | b :: l => by
   show(bytesOf (eO l)).bind _=_
   rw[oG l]
   simp
theorem Hs {st:St}{x:AV}{l:List UInt8}(h:Sl st 1 x (eO l)):strOf st x=some l:=by
 have hl:(eO l).length=l.length:=by simp[eO]
 rcases h with⟨rfl,h⟩ | ⟨id,e0,len,cap,rfl,h2,h3,h4⟩
 ·cases l with
  | nil=>rfl
  | cons a l=>cases h
 ·have e:len=l.length:=by omega
  subst e
  show(eD st l.length (.sl id e0 l.length 1 cap (eO l)) 1).bind _=_
  have c1:(Nat.ble l.length l.length && Nat.beq 1 1)=true:=by rw[Nat.ble_eq_true_of_le (Nat.le_refl _)]; rfl
  simp only[eD,eW c1,range?]
  rw[eW (Nat.ble_eq_true_of_le (by omega)),List.drop_zero,List.take_of_length_le (by omega)]
  exact oG l
end Go.Ev
end
section
set_option linter.all false
namespace Go.Ev
open Go.RowKit (Below)
section
variable {C:AO}{ext:Ext}{rounds:Nat}
theorem LQ {W0:World}(hb:Below W0.heap.size W0 W0):Inv W0 ⟨fun _=>none,fun _=>none⟩ St.empty W0:={
 below:=hb
 blt:=fun _ _ _ _ h=>by cases h
 AW:=fun _ _ _ _ _ _ _ h=>by cases h
 vJ:=fun _ _ _ _ h=>by cases h
 Ac:=fun _ _ _ _ h=>by cases h
 qK:=fun _ _ _ _ _ h=>by cases h
 nI:=fun _ _ _ _ _ _ _ h=>by cases h
 pL:=fun _ _ _ _ _ h=>by cases h
 fresh:=fun id _=>by simp[St.empty,Tr.get]
 old:=fun _ _ _ h=>by cases h }
theorem JX {W0:World}(hm:C.P.follows .mixedOrders=true)(hE:oP C.P ext)(hM:xD C.P C.Bu){n:Nat}{f:FuncId}{args:List AV}{vs:Array Value}{k:AV→Bool}(hb:Below W0.heap.size W0 W0)
 (ha:∀ G st w,aT G st w args vs.toList) (h1:aW C ext rounds n false f args St.empty (fun _ v _=>k v)=true) (hx:qM C.P f=true):
 Calls C.P f vs W0 fun e w'=>Below W0.heap.size W0 w'∧ ∃ u v G st,e=.returned u∧k v=true∧aV G st w' v u:=by
 rcases(AI (W0:=W0) hm hE hM rounds n).1 f args St.empty _ h1 _ W0 vs (LQ hb) (ha _ _ _) with⟨u,w',v,st',G',c1,_⟩ | ⟨_,c2,_⟩
 ·exact(tK hx c1).elim
 ·refine Calls.mono (callsIn_wide.1 c2) fun e w' he=>?_
  obtain⟨u,v,st',G',rfl,hk,hg,hr⟩:=he
  simp only[Bool.or_self] at hk
  exact⟨hg.inv.below,u,v,G',st',rfl,hk,hr⟩
open Classical in
theorem Fl {W0:World}(hm:C.P.follows .mixedOrders=true)(hE:oP C.P ext)(hM:xD C.P C.Bu){n:Nat}{f:FuncId}{args:List AV}{v:AV}{st':St}{vs:Array Value}(hb:Below W0.heap.size W0 W0)
 (ha:∀ G st w,aT G st w args vs.toList) (h:aR (aW C ext rounds n) false f args St.empty v st') (hx:qM C.P f=true):
 Calls C.P f vs W0 fun e w'=>Below W0.heap.size W0 w'∧ ∃ u G st,e=.returned u∧aV G st w' v u:=by
 obtain⟨p,h⟩:=h
 have h1:aW C ext rounds n false f args St.empty (fun _ v' _=>decide (v'=v))=true:=by rw[h]; exact decide_eq_true rfl
 refine Calls.mono (JX hm hE hM hb ha h1 hx) fun e w' ⟨hB,u,v',G,st,he,hk,hr⟩=>?_
 have:v'=v:=of_decide_eq_true hk
 subst this
 exact⟨hB,u,G,st,he,hr⟩
def yE (spec:FuncId→List AV→Option AV)(old:Ext):Ext:=fun f args=>match spec f args with
 | some v=>some v
 | none=>old f args
theorem Iq {old:Ext}{spec:FuncId→List AV→Option AV}(hm:C.P.follows .mixedOrders=true)(hE:oP C.P ext)(hM:xD C.P C.Bu)(ho:oP C.P old)
 (h:∀ f args v,spec f args=some v→AV.vO args=true∧v.closed=true∧qM C.P f=true∧((C.P.funcs[f]?).any fun fn=>fn.name == "runtime.NumGoroutine")=false∧ ∃ R n st',aR (aW C ext R n) false f args St.empty v st'):
 oP C.P (yE spec old):=by
 intro f args v hx G st w vs hr
 unfold yE at hx
 split at hx
 ·rename_i v' hv
  injection hx with hx
  subst hx
  obtain⟨c1,c2,c3,c4,R,n,st',hc⟩:=h f args v' hv
  refine .inr ⟨?_,Calls.mono (Fl (W0:=w) hm hE hM (Below.refl _ _) (fun G' st' w'=>aT.closed c1 hr) hc c3) fun e w' ⟨hB,u,G2,st2,he,hrep⟩=>⟨u,he,aV.closed c2 hrep,hB⟩⟩
  unfold qM at c3
  split at c3
  ·rename_i fn hfn
   have hfn':C.P.funcs[f]? =some fn:=hfn
   rw[hfn'] at c4
   have h0:¬ fn.name= "runtime.NumGoroutine" :=by simpa using c4
   have h1:¬ fn.body=none:=by intro h; rw[h] at c3; cases c3
   simp[callFunc,hfn',h0,h1]
  ·cases c3
 ·exact ho f args v hx G st w vs hr
def tN:List (Nat×(List AV→Option AV))→FuncId→List AV→Option AV
 | [],_,_=>none
 | (g,F) :: l,f,args=>cond (Nat.beq f g) (F args) (tN l f args)
theorem GK:∀{l:List (Nat×(List AV→Option AV))} {f:FuncId} {args:List AV} {v:AV},tN l f args=some v→ ∃ F,(f,F) ∈ l∧F args=some v
 | [],_,_,_,h=>by cases h
 | (g, F) :: l, f, args, v, h => by
   simp only[tN] at h
   cases hc:Nat.beq f g with
   | true =>
     rw[hc] at h
     obtain rfl:=Nat.eq_of_beq_eq_true hc
     exact⟨F,List.mem_cons_self,h⟩
   | false =>
     rw[hc] at h
     obtain⟨F',h1,h2⟩:=GK h
     exact⟨F',List.mem_cons_of_mem _ h1,h2⟩
def nX (C:AO)(ext:Ext)(x:Nat×(List AV→Option AV)):Prop:=∀ args v,x.2 args=some v→AV.vO args=true∧v.closed=true∧ ∃ R n st',aR (aW C ext R n) false x.1 args St.empty v st'
inductive rE (C:AO)(ext:Ext):List (Nat×(List AV→Option AV))→Prop where
 | nil:rE C ext []
 | cons {x:Nat×(List AV→Option AV)} {l:List (Nat×(List AV→Option AV))} (h:nX C ext x) (t:rE C ext l):rE C ext (x :: l)
theorem rE.mem {l:List (Nat×(List AV→Option AV))}(h:rE C ext l):∀ x ∈ l,nX C ext x:=by
 induction h with
 | nil=>intro x hx; cases hx
 | cons h t ih =>
   intro x hx
   rcases List.mem_cons.1 hx with rfl | hx
   ·exact h
   ·exact ih x hx
def Mi (P:Program)(f:Nat):Bool:=qM P f && !((P.funcs[f]?).any fun fn=>fn.name == "runtime.NumGoroutine")
theorem FY {old:Ext}{l:List (Nat×(List AV→Option AV))}(hm:C.P.follows .mixedOrders=true)(hE:oP C.P ext)(hM:xD C.P C.Bu)(ho:oP C.P old)
 (hb:(l.map (·.1)).all (Mi C.P)=true) (h:rE C ext l):oP C.P (yE (tN l) old):=by
 refine Iq hm hE hM ho fun f args v hv=>?_
 obtain⟨F,h1,h2⟩:=GK hv
 obtain⟨c1,c2,R,n,st',c3⟩:=h.mem _ h1 args v h2
 have hb:=List.all_eq_true.1 hb f (List.mem_map.2 ⟨_,h1,rfl⟩)
 simp only[Mi,Bool.and_eq_true,Bool.not_eq_true'] at hb
 exact⟨c1,c2,hb.1,hb.2,R,n,st',c3⟩
theorem mT {spec:FuncId→List AV→Option AV}{old:Ext}{f:FuncId}{args:List AV}{v:AV}(h:spec f args=some v):yE spec old f args=some v:=by
 unfold yE; rw[h]
end
end Go.Ev
end
section
set_option linter.all false
namespace Go.Ev
open Go.RowKit (Below)
open Go.Shelf (Ren)
open Go.Proofs (LaysC.n172 LaysC.n174 enters_of)
def sB (s:List UInt8):Option Int:=match Go.Lib.parseIntB 64 s with
 | .ok v=>cond (Nat.ble s.length iL) (some v) none
 | _=>none
def En (g:FuncId)(old:Ext):Ext:=fun f args=>cond (Nat.beq f g) (match args with
 | [.str s,.int .i64 10,.int .i64 64]=>(sB s).map fun n=>.tuple [.int .i64 n,.B7]
 | _=>none) (old f args)
section
variable {W0:World}{G:Gh}{st:St}{w:World}{P:Program}
theorem I0 {ρ:Ren}{old:Ext}(ho:oP P old)(L:LaysC.n174 P ρ):oP P (En (ρ.f 174) old):=by
 intro f args v hx G st w vs hr
 unfold En at hx
 cases hfg:Nat.beq f (ρ.f 174) with
 | false=>rw[hfg] at hx; exact ho f args v hx G st w vs hr
 | true =>
   rw[hfg] at hx
   have:=Nat.eq_of_beq_eq_true hfg
   subst this
   simp only[cond_true] at hx
   split at hx
   rotate_left
   ·cases hx
   rename_i s
   obtain⟨n,h1,rfl⟩:=Option.map_eq_some_iff.1 hx
   unfold sB at h1
   split at h1
   rotate_left
   ·cases h1
   rename_i v hv
   obtain⟨h2,h1⟩:=b7 h1
   injection h1 with h1
   subst h1
   have h2:=Nat.le_of_ble_eq_true h2
   have hm:iL=1073741824:=rfl
   obtain⟨v1,l1,e1,r1,hr⟩:=hr.cons_inv
   obtain⟨v2,l2,e2,r2,hr⟩:=hr.cons_inv
   obtain⟨v3,l3,e3,r3,hr⟩:=hr.cons_inv
   have e4:=hr.hT
   subst e4; subst e3; subst e2
   simp only[aV] at r1 r2 r3
   subst r1; subst r2; subst r3
   have:vs= #[.string ⟨s.toArray⟩,.int .i64 10,.int .i64 64]:=by apply Array.ext'; simpa using e1
   subst this
   refine .inr ⟨Go.Proofs.enters_of L.f174 (by kernel_rfl) rfl _ _,Calls.mono (Go.Proofs.Any.strconv_ParseInt_10_at64_ok L ⟨s.toArray⟩ (by show s.toArray.size≤_; simp; omega) v (by simpa using hv) w) fun e w' he=>?_⟩
   obtain⟨rfl,hw⟩:=he
   refine⟨_,rfl,?_,?_⟩
   ·simp only[aV]
    exact⟨_,rfl,aT.cons (by simp only[aV]) (aT.cons (by simp only[aV]) aT.nil)⟩
   ·rcases hw with rfl | ⟨t,rfl⟩
    ·exact Below.refl _ _
    ·exact Go.Lib.bytesWorld_below _ _ _
end
end Go.Ev
end
section
set_option linter.all false
namespace Go.Ev
open Go.RowKit (Below)
open Go.Shelf (Ren)
open Go.Proofs (Lays.n144 Lays.n155 enters_of)
def GB (s:List UInt8)(c:UInt8):Bool:=decide (0≤Go.Lib.indexByte s c)
def Gf (g:FuncId)(old:Ext):Ext:=fun f args=>cond (Nat.beq f g) (match args with
 | [.str s,.str [c]]=>some (.bool (GB s c))
 | _=>none) (old f args)
def isNum:Option AV→Bool
 | some (.wF .i64 _ _ _ _)=>true
 | _=>false
def QL (gM:Nat)(s a b:List UInt8)(st:St):Option (List UInt8):=cond (isNum (st.old gM 0) && (Nat.ble 1 a.length && (Nat.ble s.length 10000000 && Nat.ble b.length 1000))) (some (Go.Lib.replaceAll s a b)) none
def HN (g gM:Nat)(old:FuncId→List AV→St→Option (AV×St)):FuncId→List AV→St→Option (AV×St):=fun f args st=>cond (Nat.beq f g) (match args with
 | [.str s,.str a,.str b]=>(QL gM s a b st).map fun r=>(.str r,st)
 | _=>none) (old f args st)
section
variable {W0:World}{G:Gh}{st:St}{w:World}{P:Program}
theorem J4 {ρ:Ren}{old:Ext}(ho:oP P old)(L:Go.Proofs.Lays.n144 P ρ):oP P (Gf (ρ.f 144) old):=by
 intro f args v hx G st w vs hr
 unfold Gf at hx
 cases hfg:Nat.beq f (ρ.f 144) with
 | false=>rw[hfg] at hx; exact ho f args v hx G st w vs hr
 | true =>
   rw[hfg] at hx
   have:=Nat.eq_of_beq_eq_true hfg
   subst this
   simp only[cond_true] at hx
   split at hx
   rotate_left
   ·cases hx
   rename_i s c
   injection hx with hx
   subst hx
   obtain⟨v1,l1,e1,r1,hr⟩:=hr.cons_inv
   obtain⟨v2,l2,e2,r2,hr⟩:=hr.cons_inv
   have e4:=hr.hT
   subst e4; subst e2
   simp only[aV] at r1 r2
   subst r1; subst r2
   have:vs= #[.string ⟨s.toArray⟩,.string ⟨#[c]⟩]:=by apply Array.ext'; simpa using e1
   subst this
   refine .inr ⟨Go.Proofs.enters_of L.f144 (by kernel_rfl) rfl _ _,Calls.mono (Go.Proofs.Any.strings_Contains_one L ⟨s.toArray⟩ c w) fun e w' he=>?_⟩
   obtain⟨rfl,rfl⟩:=he
   exact⟨_,rfl,by simp only[aV]; rfl,Below.refl _ _⟩
theorem LA {ρ : Ren} {old : FuncId → List AV → St → Option (AV × St)} (ho : xD P old) (L : Go.Proofs.Lays.n155 P ρ) (X : Go.Proofs.Builder.Extra P ρ) : xD P (HN (ρ.f 155) (ρ.g 1) old) := by
 intro f args st v st' hx W0 G w vs I hr
 unfold HN at hx
 cases hfg:Nat.beq f (ρ.f 155) with
 | false=>rw[hfg] at hx; exact ho f args st v st' hx W0 G w vs I hr
 | true =>
   rw[hfg] at hx
   have:=Nat.eq_of_beq_eq_true hfg
   subst this
   simp only[cond_true] at hx
   split at hx
   rotate_left
   ·cases hx
   rename_i s a b
   obtain⟨r,h1,hx⟩:=Option.map_eq_some_iff.1 hx
   injection hx with e1 e2
   subst e1; subst e2
   unfold QL at h1
   obtain⟨h2,h1⟩:=b7 h1
   injection h1 with h1
   subst h1
   simp only[Bool.and_eq_true] at h2
   obtain⟨h2,h3,h4,h5⟩:=h2
   have h3:=Nat.le_of_ble_eq_true h3
   have h4:=Nat.le_of_ble_eq_true h4
   have h5:=Nat.le_of_ble_eq_true h5
   obtain⟨v1,l1,e1,r1,hr⟩:=hr.cons_inv
   obtain⟨v2,l2,e2,r2,hr⟩:=hr.cons_inv
   obtain⟨v3,l3,e3,r3,hr⟩:=hr.cons_inv
   have e4:=hr.hT
   subst e4; subst e3; subst e2
   simp only[aV] at r1 r2 r3
   subst r1; subst r2; subst r3
   have:vs= #[.string ⟨s.toArray⟩,.string ⟨a.toArray⟩,.string ⟨b.toArray⟩]:=by apply Array.ext'; simpa using e1
   subst this
   have hsz:∀ l:List UInt8,(⟨l.toArray⟩:ByteArray).size=l.length:=fun l=>by show l.toArray.size=_; simp
   obtain⟨m,hm⟩:∃ m:Int,w.cell? ⟨ρ.g 1,0,none⟩=some (.int .i64 m):=by
    cases h6:st.old (ρ.g 1) 0 with
    | none=>rw[h6] at h2; cases h2
    | some q =>
      rw[h6] at h2
      cases q <;> first | (cases h2; done) | skip
      rename_i k mm rr lo hi
      cases k <;> first | (cases h2; done) | skip
      obtain⟨hb,hq,_⟩:=I.old _ _ _ h6
      obtain⟨ev,hv,hrep⟩:=hq rfl
      have:=hrep G st w
      simp only[aV] at this
      obtain⟨n,rfl,_⟩:=this
      exact⟨n,by rw[I.below.cell (p:=⟨_,0,none⟩) hb]; exact hv⟩
   have hcb:Go.Lib.countB ⟨s.toArray⟩ ⟨a.toArray⟩ * (⟨a.toArray⟩:ByteArray).size≤(⟨s.toArray⟩:ByteArray).size:=Go.Lib.countB_mul_le _ (by rw[hsz]; exact h3) _ _ (Nat.le_refl _)
   rw[hsz,hsz] at hcb
   have hcb2:Go.Lib.countB ⟨s.toArray⟩ ⟨a.toArray⟩≤s.length:=Nat.le_trans (Nat.le_mul_of_pos_right _ (by omega)) hcb
   have hcb3:Go.Lib.countB ⟨s.toArray⟩ ⟨a.toArray⟩ * b.length≤10000000 * 1000:=Nat.mul_le_mul (Nat.le_trans hcb2 h4) h5
   refine .inr ⟨Go.Proofs.enters_of L.f155 (by kernel_rfl) rfl _ _,Calls.mono (Go.Proofs.Any.strings_ReplaceAll L X ⟨s.toArray⟩ ⟨a.toArray⟩ ⟨b.toArray⟩ m w (by rw[hsz]; omega) hm (by rw[hsz]; exact h3) (by rw[hsz,hsz]; omega)) fun e w' he=>?_⟩
   obtain⟨rfl,B⟩:=he
   exact⟨_,G,rfl,FU I B,by simp only[aV]⟩
end
theorem JL {C:AO}{ext:Ext}{rounds n:Nat}{f:FuncId}{args:List AV}{v:AV}{st st':St}(he:ext f args=none)(h:C.Bu f args st=some (v,st')):aR (aW C ext rounds (n+1)) false f args st v st':=
 ⟨false,fun k=>by simp only[aW,he,h]⟩
end Go.Ev
end
section
set_option linter.all false
set_option maxRecDepth 100000
namespace Go.Proofs.YthodfojhbbendaaGreatDoor
open Go Go.Ev
noncomputable section
noncomputable def C0:AO:=⟨Tryz.prog,fun _=>false,HN 139 0 N9⟩
theorem FW:C0.P.follows .mixedOrders=true:=by kernel_rfl
theorem I7:xD C0.P C0.Bu:=LA (P:=Tryz.prog) (ρ:=Tryz.laysRA_ren) L9 Tryz.laysRA Tryz.extraRA
theorem NO:oP C0.P (Dz 181):=Ii Tryz.func181 (by kernel_rfl) (by kernel_rfl) (by kernel_rfl) (by kernel_rfl)
noncomputable def PC:Ext:=Gf 37 (En 202 (Dz 181))
theorem KG:oP C0.P PC:=J4 (P:=Tryz.prog) (ρ:=Tryz.laysCo_ren) (I0 (P:=Tryz.prog) (ρ:=Tryz.laysPI_ren) NO Tryz.laysPI) Tryz.laysCo
theorem LH:aW C0 PC 100000 (999+1) false 10 [] St.empty (fun _ v _=>Fb v)=true:=by kernel_rfl
theorem Pj (w:World):Calls Tryz.prog 10 #[] w fun e w'=>e=.returned (.bool true)∧Go.RowKit.Below w.heap.size w w':=
 Iy (C:=C0) (rounds:=100000) (n:=999) FW KG I7 (Go.RowKit.Below.refl _ _) (fun _ _ _=>aT.nil) LH (by kernel_rfl)
noncomputable def sG:Ext:=Ea 10 true PC
theorem Jj:oP C0.P sG:=HZ KG Tryz.func10 (by kernel_rfl) (by kernel_rfl) Pj
noncomputable def xIdx (R:Nat)(s:List UInt8)(c:Int):Option Int:=some (wM s (c.toNat % 256) 0)
theorem Nc (R n:Nat)(s:List UInt8)(c:Int)(st:St)(r:Int)(h:xIdx R s c=some r):aR (aW C0 sG R (n+1)) false 181 [.str s,.int .u8 c] st (.int .i64 r) st:=by
 obtain rfl:=Option.some.inj h
 exact kQ rfl st
end
end Go.Proofs.YthodfojhbbendaaGreatDoor
end
section
set_option linter.all false
set_option maxRecDepth 100000
namespace Go.Proofs.YthodfojhbbendaaGreatDoor
open Go Go.Ev
noncomputable section
theorem b9 {α:Type}{a b:α}(h:some a=some b):a=b:=Option.some.inj h
theorem dE {C:AO}{ext:Ext}{rounds n:Nat}{f:FuncId}{hs:List Hint}{args:List AV}{v:AV}{st st':St}{cs:List Prop}(h:(Mw C (aW C ext rounds n) f rounds hs args st,ext f args,C.Bu f args st)=(some (cs,v,st'),none,none))(hc:mD cs):aR (aW C ext rounds (n+1)) false f args st v st':=by
 injection h with h1 h2
 injection h2 with h2 h3
 exact Hw h1 hc h2 h3
abbrev oE (N:Nat)(ext:Ext)(R n:Nat)(f:FuncId)(p:List Nat)(i:List (Nat×AV))(st:St)(e:cE)(o:List (Nat×AV))(st':St):Prop:=jL N (cZ C0 (aW C0 ext R n) f R none (dA C0.P f p)) (dI (dA C0.P f p)) i st e o st'
theorem aG {p:Prop}{l:List Prop}(h:p)(t:mD l):mD (p :: l):=.cons h t
theorem eE:mD []:=.nil
abbrev nU (a0:Int)(a1:List UInt8)(a2:Int):AV:=.agg [(.int .i64 a0),(.str a1),(.int .i64 a2)]
abbrev aJ (a0:Int)(a1:List UInt8)(a2:Int)(a3:Bool)(a4:Int)(a5:List UInt8)(a6:AV)(a7:AV)(a8:AV)(a9:AV):AV:=.agg [(.int .i64 a0),(.str a1),(.int .i64 a2),(.bool a3),(.int .i64 a4),(.str a5),a6,a7,a8,a9]
abbrev bD (a0:Int)(a1:Bool)(a2:Int)(a3:List UInt8)(a4:AV)(a5:AV):AV:=.agg [(.int .i64 a0),(.bool a1),(.int .i64 a2),(.str a3),a4,a5]
abbrev aP (a0:Int)(a1:List UInt8)(a2:List UInt8)(a3:Int)(a4:List UInt8)(a5:Int)(a6:Bool)(a7:Int)(a8:List UInt8)(a9:AV)(a:AV)(b:AV)(c:AV)(d:AV)(e:AV)(f:Int)(g:List UInt8)(h:Int)(i:Bool)(j:Int)(k:List UInt8)(l:AV)(m:AV)(n:AV)(o:AV)(p:AV)(q:Bool)(r:Bool)(s:List UInt8)(t:Bool)(u:Int):AV:=.agg [(.int .i64 a0),(.str a1),(.str a2),(.int .i64 a3),(.str a4),(.int .i64 a5),(.bool a6),(.int .i64 a7),(.str a8),a9,a,b,c,d,e,(.int .i64 f),(.str g),(.int .i64 h),(.bool i),(.int .i64 j),(.str k),l,m,n,o,p,(.bool q),(.bool r),(.str s),(.bool t),(.int .i64 u)]
abbrev mK (a0:List UInt8)(a1:List UInt8):AV:=.agg [(.str a0),(.str a1)]
abbrev DH (a0:List UInt8)(a1:List UInt8)(a2:List UInt8):AV:=.agg [(.str a0),(.str a1),(.str a2)]
abbrev qU:List AV:=[(.int .i64 0),(.str []),(.int .i64 0)]
abbrev L4:List AV:=[(.int .i64 0),(.str []),(.int .i64 0),(.bool false),(.int .i64 0),(.str []),AV.aF,AV.aF,AV.aF,AV.aF]
def fS (R : Nat) (c : List UInt8) : Nat → AV → Int → St → Option ((List UInt8 × Int × St) ⊕ (St))
 | 0,_,_,_=>none
 | r + 1, d, a, b =>
   if (a < (List.length c : Int)) then
    (zK c a).bind fun e=>
    if (e = 39) then
     if((IntKind.wrap .i64 (a+1))<(List.length c:Int)) then
      (zK c (IntKind.wrap .i64 (a+1))).bind fun f=>
      if(f=39) then
       (eV (aY C0.P (C0.cQ 144) 90 1 [(0,(.int .u8 e))]) b).bind fun(g,h)=>
       (cX C0.P (C0.cQ 144) h #[90,90] d g).bind fun(i,j)=>
       fS R c r i (IntKind.wrap .i64 ((IntKind.wrap .i64 (a+1))+1)) j
      else
       (strOf b d).bind fun k=>
       some (.inl (k,(IntKind.wrap .i64 (a+1)),b))
     else
      (strOf b d).bind fun l=>
      some (.inl (l,(IntKind.wrap .i64 (a+1)),b))
    else
     (eV (aY C0.P (C0.cQ 144) 90 1 [(0,(.int .u8 e))]) b).bind fun(m,n)=>
     (cX C0.P (C0.cQ 144) n #[90,90] d m).bind fun(o,p)=>
     fS R c r o (IntKind.wrap .i64 (a+1)) p
   else
    some (.inr b)
def q8 (o:(List UInt8×Int×St) ⊕ (St)):cE×List (Nat×AV)×St:=match o with
 | .inl (a0,a1,a2)=>(.ret,[(2,.str a0),(3,.int .i64 a1)],a2)
 | .inr a0=>((.exit 0),[],a0)
theorem uH (R n : Nat) (l : List UInt8) : ∀ (r : Nat) (f : AV) (a : Int) (g : St) (o : (List UInt8 × Int × St) ⊕ (St)), fS R l r f a g = some o →
 jL 46 (jA (fun fr k=>cZ C0 (aW C0 sG R n) 144 R none (dA C0.P 144 [1,1,0,1,0,0]) fr k) r) (dI (dA C0.P 144 [1,1,0,1,0,0])) [(0,(.str l)),(4,f),(5,(.int .i64 a))] g (q8 o).1 (q8 o).2.1 (q8 o).2.2:=by
 intro r
 induction r with
 | zero=>intro f a g o h; exact nomatch h
 | succ r ih =>
   intro f a g o
   unfold fS;refine aU (fun b=>?_) (fun b=>?_)
   ·refine aA fun c d=>?_;refine aU (fun e=>?_) (fun e=>?_)
    ·refine aU (fun i=>?_) (fun i=>?_)
     ·refine aA fun m p=>?_;refine aU (fun j=>?_) (fun j=>?_)
      ·refine aA fun o w=>?_;obtain⟨x,y⟩:=o;refine aA fun o z=>?_;obtain⟨q,s⟩:=o;intro h;exact cS (aK (hs:=[.run 3,.dec true,.aM,.aM,.run 2,.val (.int .u8 c),.dec false,.aM,.run 4,.dec true,.run 4,.val (.int .u8 m),.dec true,.run 1,.aM,.run 3,.val (.int .u8 c),.cA x y,.cA q s,.run 7]) (want:=[0,4,5]) (by kernel_rfl) (.cons z<|.cons w<|.cons (gE (k:=.i64) (P:=C0.P) (t:=9) (by kernel_rfl) d)<|.cons (eG j)<|.cons (gE (k:=.i64) (P:=C0.P) (t:=9) (by kernel_rfl) p)<|.cons (decide_eq_true i)<|.cons (Ax e)<|.cons (gE (k:=.i64) (P:=C0.P) (t:=9) (by kernel_rfl) d)<|.cons (decide_eq_true b) .nil)) (ih q (IntKind.wrap .i64 ((IntKind.wrap .i64 (a+1))+1)) s _ h)
      ·refine aA fun A B=>?_;intro h;obtain rfl:=b9 h;exact bI (aK (hs:=[.run 3,.dec true,.aM,.aM,.run 2,.val (.int .u8 c),.dec false,.aM,.run 4,.dec true,.run 4,.val (.int .u8 m),.dec false,.run 1,.aM,.run 1,.val (.str A),.run 4]) (want:=[2,3]) (by kernel_rfl) (.cons (qB B)<|.cons (dP j)<|.cons (gE (k:=.i64) (P:=C0.P) (t:=9) (by kernel_rfl) p)<|.cons (decide_eq_true i)<|.cons (Ax e)<|.cons (gE (k:=.i64) (P:=C0.P) (t:=9) (by kernel_rfl) d)<|.cons (decide_eq_true b) .nil)) (by kernel_rfl)
     ·refine aA fun C D=>?_;intro h;obtain rfl:=b9 h;exact bI (aK (hs:=[.run 3,.dec true,.aM,.aM,.run 2,.val (.int .u8 c),.dec false,.aM,.run 4,.dec false,.run 2,.aM,.run 1,.val (.str C),.run 4]) (want:=[2,3]) (by kernel_rfl) (.cons (qB D)<|.cons (decide_eq_false i)<|.cons (Ax e)<|.cons (gE (k:=.i64) (P:=C0.P) (t:=9) (by kernel_rfl) d)<|.cons (decide_eq_true b) .nil)) (by kernel_rfl)
    ·refine aA fun o E=>?_;obtain⟨F,G⟩:=o;refine aA fun o Lj=>?_;obtain⟨u,v⟩:=o;intro h;exact cS (aK (hs:=[.run 3,.dec true,.aM,.aM,.run 2,.val (.int .u8 c),.dec true,.aM,.run 3,.val (.int .u8 c),.cA F G,.cA u v,.run 4]) (want:=[0,4,5]) (by kernel_rfl) (.cons Lj<|.cons E<|.cons (gE (k:=.i64) (P:=C0.P) (t:=9) (by kernel_rfl) d)<|.cons (D5 e)<|.cons (gE (k:=.i64) (P:=C0.P) (t:=9) (by kernel_rfl) d)<|.cons (decide_eq_true b) .nil)) (ih u (IntKind.wrap .i64 (a+1)) v _ h)
   ·intro h;obtain rfl:=b9 h;exact bI (aK (hs:=[.run 3,.dec false,.aM]) (want:=[]) (by kernel_rfl) (.cons (decide_eq_false b) .nil)) (by kernel_rfl)
def wO (R:Nat)(s1:List UInt8)(st2:St):Option (List UInt8×Int×St):=
 (fS R s1 R AV.aF 1 st2).bind fun o=>match o with
 | .inl (a,b,c)=>
  some (a,b,c)
 | .inr d=>
  some ([],0,d)
theorem Fg {R:Nat}(n:Nat){s1:List UInt8}{st2:St}{r:List UInt8×Int×St}(h:wO R s1 st2=some r):
 aR (aW C0 sG R (n+1)) false 144 [(.str s1)] st2 (.tuple [(.str r.1),(.int .i64 r.2.1)]) r.2.2:=by
 revert h;unfold wO;refine aA fun o a=>?_
 rcases o with⟨b,c,d⟩ | e
 ·intro h;obtain rfl:=b9 h;exact dE (hs:=[.run 4,.aM,.abs [0,4,5] .ret [(2,(.str b)),(3,(.int .i64 c))] d]) (by kernel_rfl) (aG (bY (uH R n s1 R AV.aF 1 st2 _ a)) eE)
 ·intro h;obtain rfl:=b9 h;exact dE (hs:=[.run 4,.aM,.abs [0,4,5] (.exit 0) [] e,.run 2]) (by kernel_rfl) (aG (bY (uH R n s1 R AV.aF 1 st2 _ a)) eE)
def stringslite_IndexByte (R:Nat)(a:List UInt8)(b:Int):Option (Int):=
 (xIdx R a b).bind fun c=>
 some c
theorem yJ {R:Nat}(n:Nat){b:List UInt8}{c:Int}(a:St){r:Int}(h:stringslite_IndexByte R b c=some r):
 aR (aW C0 sG R (n+2)) false 158 [(.str b),(.int .u8 c)] a (.int .i64 r) a:=by
 revert h;unfold stringslite_IndexByte;refine aA fun d e=>?_;intro h;obtain rfl:=b9 h;exact dE (hs:=[.run 3,.call (.int .i64 d) a,.run 1]) (by kernel_rfl) (aG (Nc R n b c a _ e) eE)
def oR (R:Nat)(a:List UInt8)(b:Int):Option (Int):=
 (stringslite_IndexByte R a b).bind fun c=>
 some c
theorem B6 {R:Nat}(n:Nat){b:List UInt8}{c:Int}(a:St){r:Int}(h:oR R b c=some r):
 aR (aW C0 sG R (n+3)) false 200 [(.str b),(.int .u8 c)] a (.int .i64 r) a:=by
 revert h;unfold oR;refine aA fun d e=>?_;intro h;obtain rfl:=b9 h;exact dE (hs:=[.run 3,.call (.int .i64 d) a,.run 1]) (by kernel_rfl) (aG (yJ n a e) eE)
def sY (R:Nat)(a:Int):Option (Int):=
 (oR R [48,49,50,51,52,53,54,55,56,57,97,98,99,100,101,102] a).bind fun b=>
 some b
theorem oH {R:Nat}(n:Nat){b:Int}(a:St){r:Int}(h:sY R b=some r):
 aR (aW C0 sG R (n+4)) false 171 [(.int .u8 b)] a (.int .i64 r) a:=by
 revert h;unfold sY;refine aA fun c d=>?_;intro h;obtain rfl:=b9 h;exact dE (hs:=[.run 2,.call (.int .i64 c) a,.run 1]) (by kernel_rfl) (aG (B6 n a d) eE)
def iZ (R : Nat) (a : List UInt8) : Nat → AV → Int → St → Option ((List UInt8 × Bool × St) ⊕ (AV × St))
 | 0,_,_,_=>none
 | r + 1, d, b, c =>
   if ((IntKind.wrap .i64 (b + 1)) < (List.length a : Int)) then
    (zK a b).bind fun g=>
    (zK a (IntKind.wrap .i64 (b+1))).bind fun h=>
    (sY R g).bind fun e=>
    (sY R h).bind fun f=>
    if(e<0) then
     some (.inl ([],false,c))
    else
     if(f<0) then
      some (.inl ([],false,c))
     else
      (eV (aY C0.P (C0.cQ 145) 90 1 [(0,(.int .u8 (IntKind.wrap .u8 (QU .i64 (IntKind.wrap .i64 (e * 2 ^ 4)) f))))]) c).bind fun(i,j)=>
      (cX C0.P (C0.cQ 145) j #[90,90] d i).bind fun(k,l)=>
      iZ R a r k (IntKind.wrap .i64 (b+2)) l
   else
    some (.inr (d,c))
def sS (o:(List UInt8×Bool×St) ⊕ (AV×St)):cE×List (Nat×AV)×St:=match o with
 | .inl (a0,a1,a2)=>(.ret,[(2,.str a0),(3,.bool a1)],a2)
 | .inr (a0,a1)=>((.exit 0),[(4,a0)],a1)
theorem y7 (R n : Nat) (s : List UInt8) : ∀ (r : Nat) (d : AV) (b : Int) (a : St) (o : (List UInt8 × Bool × St) ⊕ (AV × St)), iZ R s r d b a = some o →
 jL 48 (jA (fun fr k=>cZ C0 (aW C0 sG R (n+4)) 145 R none (dA C0.P 145 [1,1,0,1,0,0]) fr k) r) (dI (dA C0.P 145 [1,1,0,1,0,0])) [(0,(.str s)),(4,d),(5,(.int .i64 b))] a (sS o).1 (sS o).2.1 (sS o).2.2:=by
 intro r
 induction r with
 | zero=>intro d b a o h; exact nomatch h
 | succ r ih =>
   intro d b a o
   unfold iZ;refine aU (fun c=>?_) (fun c=>?_)
   ·refine aA fun f DM=>aA fun g i=>aA fun j l=>aA fun m p=>?_
    refine aU (fun e=>?_) (fun e=>?_)
    ·intro h;obtain rfl:=b9 h;exact bI (aK (hs:=[.run 4,.dec true,.aM,.aM,.run 2,.val (.int .u8 f),.run 3,.val (.int .u8 g),.call (.int .i64 j) a,.call (.int .i64 m) a,.run 3,.dec true,.run 2,.aM,.run 2]) (want:=[2,3]) (by kernel_rfl) (.cons (decide_eq_true e)<|.cons (oH n a p)<|.cons (oH n a l)<|.cons (gE (k:=.i64) (P:=C0.P) (t:=9) (by kernel_rfl) i)<|.cons (gE (k:=.i64) (P:=C0.P) (t:=9) (by kernel_rfl) DM)<|.cons (decide_eq_true c) .nil)) (by kernel_rfl)
    ·refine aU (fun q=>?_) (fun q=>?_)
     ·intro h;obtain rfl:=b9 h;exact bI (aK (hs:=[.run 4,.dec true,.aM,.aM,.run 2,.val (.int .u8 f),.run 3,.val (.int .u8 g),.call (.int .i64 j) a,.call (.int .i64 m) a,.run 3,.dec false,.run 2,.dec true,.run 1,.aM,.run 2]) (want:=[2,3]) (by kernel_rfl) (.cons (decide_eq_true q)<|.cons (decide_eq_false e)<|.cons (oH n a p)<|.cons (oH n a l)<|.cons (gE (k:=.i64) (P:=C0.P) (t:=9) (by kernel_rfl) i)<|.cons (gE (k:=.i64) (P:=C0.P) (t:=9) (by kernel_rfl) DM)<|.cons (decide_eq_true c) .nil)) (by kernel_rfl)
     ·refine aA fun o w=>?_;obtain⟨x,y⟩:=o;refine aA fun o z=>?_;obtain⟨u,v⟩:=o;intro h;exact cS (aK (hs:=[.run 4,.dec true,.aM,.aM,.run 2,.val (.int .u8 f),.run 3,.val (.int .u8 g),.call (.int .i64 j) a,.call (.int .i64 m) a,.run 3,.dec false,.run 2,.dec false,.run 1,.aM,.run 6,.cA x y,.cA u v,.run 4]) (want:=[0,4,5]) (by kernel_rfl) (.cons z<|.cons w<|.cons (decide_eq_false q)<|.cons (decide_eq_false e)<|.cons (oH n a p)<|.cons (oH n a l)<|.cons (gE (k:=.i64) (P:=C0.P) (t:=9) (by kernel_rfl) i)<|.cons (gE (k:=.i64) (P:=C0.P) (t:=9) (by kernel_rfl) DM)<|.cons (decide_eq_true c) .nil)) (ih u (IntKind.wrap .i64 (b+2)) v _ h)
   ·intro h;obtain rfl:=b9 h;exact bI (aK (hs:=[.run 4,.dec false,.aM]) (want:=[4]) (by kernel_rfl) (.cons (decide_eq_false c) .nil)) (by kernel_rfl)
def A3 (R : Nat) (a : List UInt8) (d : St) : Option (List UInt8 × Bool × St) :=
 (eV (pB C0.P 90 (.int .i64 0) (.int .i64 (IntKind.wrap .i64 (Int.tdiv (List.length a:Int) 2)))) d).bind fun(e,f)=>
 (iZ R a R e 0 f).bind fun o=>match o with
 | .inl (g,h,i)=>
  some (g,h,i)
 | .inr (j, b) =>
  (strOf b j).bind fun c=>
  if((Int.tmod (List.length a:Int) 2)=0) then
   some (c,true,b)
  else
   some (c,false,b)
theorem JN {R:Nat}(n:Nat){a:List UInt8}{e:St}{r:List UInt8×Bool×St}(h:A3 R a e=some r):
 aR (aW C0 sG R (n+5)) false 145 [(.str a)] e (.tuple [(.str r.1),(.bool r.2.1)]) r.2.2:=by
 revert h;unfold A3;refine aA fun o f=>?_;obtain⟨b,c⟩:=o;refine aA fun o g=>?_
 rcases o with⟨i,j,k⟩ | ⟨l,m⟩
 ·intro h;obtain rfl:=b9 h;exact dE (hs:=[.run 5,.cA b c,.run 2,.aM,.abs [0,4,5] .ret [(2,(.str i)),(3,(.bool j))] k]) (by kernel_rfl) (aG (bY (y7 R n a R b 0 c _ g))<|aG f eE)
 ·refine aA fun p q=>?_;have q9001:=aG (qB q)<|aG (bY (y7 R n a R b 0 c _ g))<|aG f eE
  let q8001:List Hint:=[.run 5,.cA b c,.run 2,.aM,.abs [0,4,5] (.exit 0) [(4,l)] m,.run 1,.val (.str p),.run 3]
  refine aU (fun d=>?_) (fun d=>?_)
  ·intro h;obtain rfl:=b9 h;exact dE (hs:=q8001 ++ [.dec true,.run 2]) (by kernel_rfl) (aG (eG d) q9001)
  ·intro h;obtain rfl:=b9 h;exact dE (hs:=q8001 ++ [.dec false,.run 2]) (by kernel_rfl) (aG (dP d) q9001)
def bJ (R : Nat) (c : AV) (d : List UInt8) (e : Int) : Nat → Int → St → Option ((Int × St) ⊕ (St))
 | 0,_,_=>none
 | r + 1, a, b =>
   if(a<e) then
    (bA C0.P 22 c (.int .i64 a)).bind fun f=>
    (loadAt C0.P b 9 f).bind fun g=>
    (eY g).bind fun h=>
    if(d=h) then
     some (.inl (a,b))
    else
     bJ R c d e r (IntKind.wrap .i64 (a+1)) b
   else
    some (.inr b)
def gL (o:(Int×St) ⊕ (St)):cE×List (Nat×AV)×St:=match o with
 | .inl (a0,a1)=>(.ret,[(4,.int .i64 a0)],a1)
 | .inr a0=>((.exit 0),[],a0)
theorem kH (R n : Nat) (e : AV) (f : List UInt8) (g : Int) : ∀ (r : Nat) (a : Int) (b : St) (o : (Int × St) ⊕ (St)), bJ R e f g r a b = some o →
 jL 19 (jA (fun fr k=>cZ C0 (aW C0 sG R n) 81 R none (dA C0.P 81 [1,0,1,0,0]) fr k) r) (dI (dA C0.P 81 [1,0,1,0,0])) [(0,e),(1,(.str f)),(7,(.int .i64 g)),(8,(.int .i64 a))] b (gL o).1 (gL o).2.1 (gL o).2.2:=by
 intro r
 induction r with
 | zero=>intro a b o h; exact nomatch h
 | succ r ih =>
   intro a b o
   unfold bJ;refine aU (fun c=>?_) (fun c=>?_)
   ·refine aA fun i j=>aA fun q l=>aA fun m p=>?_
    obtain rfl:=cC p;refine aU (fun d=>?_) (fun d=>?_)
    ·intro h;obtain rfl:=b9 h;exact bI (aK (hs:=[.dec true,.aM,.aM,.run 5,.val i,.val (.str m),.dec true,.aM,.run 2]) (want:=[4]) (by kernel_rfl) (.cons (dM d)<|.cons l<|.cons j<|.cons (decide_eq_true c) .nil)) (by kernel_rfl)
    ·intro h;exact cS (aK (hs:=[.dec true,.aM,.aM,.run 5,.val i,.val (.str m),.dec false,.aM,.run 2]) (want:=[0,1,7,8]) (by kernel_rfl) (.cons (cL d)<|.cons l<|.cons j<|.cons (decide_eq_true c) .nil)) (ih (IntKind.wrap .i64 (a+1)) b _ h)
   ·intro h;obtain rfl:=b9 h;exact bI (aK (hs:=[.dec false,.aM]) (want:=[]) (by kernel_rfl) (.cons (decide_eq_false c) .nil)) (by kernel_rfl)
def hZ (R:Nat)(a:AV)(b:List UInt8)(c:St):Option (Int×St):=
 (lenOf a).bind fun n162=>
 (bJ R a b (n162:Int) R 0 c).bind fun o=>match o with
 | .inl (d,e)=>
  some (d,e)
 | .inr f=>
  some ((-1),f)
theorem sD {R:Nat}(n:Nat){a:AV}{b:List UInt8}{c:St}{r:Int×St}(h:hZ R a b c=some r):
 aR (aW C0 sG R (n+1)) false 81 [a,(.str b)] c (.int .i64 r.1) r.2:=by
 revert h;unfold hZ;refine aA fun n162 d=>aA fun o f=>?_
 rcases o with⟨g,i⟩ | j
 ·intro h;obtain rfl:=b9 h;exact dE (hs:=[.run 2,.val (.int .i64 (n162:Int)),.run 1,.aM,.abs [0,1,7,8] .ret [(4,(.int .i64 g))] i]) (by kernel_rfl) (aG (bY (kH R n a b (n162:Int) R 0 c _ f))<|aG (cV (P:=C0.P) (t:=22) (e:=9) (by kernel_rfl) d) eE)
 ·intro h;obtain rfl:=b9 h;exact dE (hs:=[.run 2,.val (.int .i64 (n162:Int)),.run 1,.aM,.abs [0,1,7,8] (.exit 0) [] j,.run 1]) (by kernel_rfl) (aG (bY (kH R n a b (n162:Int) R 0 c _ f))<|aG (cV (P:=C0.P) (t:=22) (e:=9) (by kernel_rfl) d) eE)
def fQ (R:Nat)(b:AV)(c:List UInt8)(d:St):Option (Bool×St):=
 (hZ R b c d).bind fun(e,a)=>
 if(e≥0) then
  some (true,a)
 else
  some (false,a)
theorem qA {R:Nat}(n:Nat){b:AV}{c:List UInt8}{d:St}{r:Bool×St}(h:fQ R b c d=some r):
 aR (aW C0 sG R (n+2)) false 38 [b,(.str c)] d (.bool r.1) r.2:=by
 revert h;unfold fQ;refine aA fun o g=>?_;obtain⟨e,f⟩:=o;have q9002:=aG (sD n g) eE
 refine aU (fun a=>?_) (fun a=>?_)
 ·intro h;obtain rfl:=b9 h;exact dE (hs:=[.run 3,.call (.int .i64 e) f,.dec true,.run 1]) (by kernel_rfl) (aG (decide_eq_true a) q9002)
 ·intro h;obtain rfl:=b9 h;exact dE (hs:=[.run 3,.call (.int .i64 e) f,.dec false,.run 1]) (by kernel_rfl) (aG (decide_eq_false a) q9002)
def Cl (R:Nat)(a:List UInt8)(b:St):Option (Bool×St):=
 (eV (aY C0.P (C0.cQ 173) 22 26 [(0,(.str [65,78,68])),(1,(.str [66,89])),(2,(.str [67,79,85,78,84])),(3,(.str [67,82,69,65,84,69])),(4,(.str [68,69,76,69,84,69])),(5,(.str [68,69,83,67])),(6,(.str [70,65,76,83,69])),(7,(.str [70,82,79,77])),(8,(.str [72,73,83,84,79,82,89])),(9,(.str [73,78,68,69,88])),(10,(.str [73,78,83,69,82,84])),(11,(.str [73,78,84,79])),(12,(.str [73,83])),(13,(.str [76,73,77,73,84])),(14,(.str [78,79,84])),(15,(.str [78,85,76,76])),(16,(.str [79,78])),(17,(.str [79,82])),(18,(.str [79,82,68,69,82])),(19,(.str [83,69,76,69,67,84])),(20,(.str [83,69,84])),(21,(.str [84,65,66,76,69])),(22,(.str [84,82,85,69])),(23,(.str [85,80,68,65,84,69])),(24,(.str [86,65,76,85,69])),(25,(.str [87,72,69,82,69]))]) b).bind fun(c,d)=>
 (fQ R c a d).bind fun(e,f)=>
 some (e,f)
theorem JW {R:Nat}(n:Nat){a:List UInt8}{b:St}{r:Bool×St}(h:Cl R a b=some r):
 aR (aW C0 sG R (n+3)) false 173 [(.str a)] b (.bool r.1) r.2:=by
 revert h;unfold Cl;refine aA fun o DI=>?_;obtain⟨c,d⟩:=o;refine aA fun o e=>?_;obtain⟨f,g⟩:=o;intro h;obtain rfl:=b9 h;exact dE (hs:=[.run 1,.cA c d,.run 1,.call (.bool f) g,.run 1]) (by kernel_rfl) (aG (qA n e)<|aG DI eE)
def gI (R : Nat) (c : List UInt8) (d : Int) : Nat → Int → Option ((Bool) ⊕ (Unit))
 | 0,_=>none
 | r + 1, a =>
   if (a < d) then
    (zK c a).bind fun b=>
    if (b ≥ 97) then
     if(b≤122) then
      gI R c d r (IntKind.wrap .i64 (a+1))
     else
      if(a=0) then
       some (.inl false)
      else
       some (.inl false)
    else
     if (b ≥ 65) then
      if(b≤90) then
       gI R c d r (IntKind.wrap .i64 (a+1))
      else
       if(b=95) then
        gI R c d r (IntKind.wrap .i64 (a+1))
       else
        if(a=0) then
         some (.inl false)
        else
         some (.inl false)
     else
      if(a=0) then
       some (.inl false)
      else
       if(b<48) then
        some (.inl false)
       else
        if(b>57) then
         some (.inl false)
        else
         gI R c d r (IntKind.wrap .i64 (a+1))
   else
    some (.inr ())
def qO (st:St)(o:(Bool) ⊕ (Unit)):cE×List (Nat×AV)×St:=match o with
 | .inl a0=>(.ret,[(2,.bool a0)],st)
 | .inr ()=>((.exit 0),[],st)
theorem uZ (R n : Nat) (v : List UInt8) (w : Int) (j : St) : ∀ (r : Nat) (f : Int) (o : (Bool) ⊕ (Unit)), gI R v w r f = some o →
 jL 55 (jA (fun fr k=>cZ C0 (aW C0 sG R n) 129 R none (dA C0.P 129 [1,0,1,0,0]) fr k) r) (dI (dA C0.P 129 [1,0,1,0,0])) [(0,(.str v)),(7,(.int .i64 w)),(8,(.int .i64 f))] j (qO j o).1 (qO j o).2.1 (qO j o).2.2:=by
 intro r
 induction r with
 | zero=>intro f o h; exact nomatch h
 | succ r ih =>
   intro f o
   unfold gI;refine aU (fun b=>?_) (fun b=>?_)
   ·refine aA fun a d => ?_
    refine aU (fun c=>?_) (fun c=>?_)
    ·refine aU (fun l=>?_) (fun l=>?_)
     ·intro h;exact cS (aK (hs:=[.dec true,.aM,.aM,.run 4,.val (.int .u8 a),.run 2,.dec true,.run 2,.dec true,.run 10,.aM,.run 2]) (want:=[0,7,8]) (by kernel_rfl) (.cons (decide_eq_true l)<|.cons (decide_eq_true c)<|.cons (gE (k:=.i64) (P:=C0.P) (t:=9) (by kernel_rfl) d)<|.cons (decide_eq_true b) .nil)) (ih (IntKind.wrap .i64 (f+1)) _ h)
     ·refine aU (fun q=>?_) (fun q=>?_)
      ·intro h;obtain rfl:=b9 h;exact bI (aK (hs:=[.dec true,.aM,.aM,.run 4,.val (.int .u8 a),.run 2,.dec true,.run 2,.dec false,.run 3,.dec true,.run 2,.dec false,.run 4,.dec false,.run 6,.dec true,.run 5,.aM,.run 1]) (want:=[2]) (by kernel_rfl) (.cons (eG q)<|.cons (dP (show ¬ (a=95) by omega))<|.cons (decide_eq_false (show ¬ (a≤90) by omega))<|.cons (decide_eq_true (show(a≥65) by omega))<|.cons (decide_eq_false l)<|.cons (decide_eq_true c)<|.cons (gE (k:=.i64) (P:=C0.P) (t:=9) (by kernel_rfl) d)<|.cons (decide_eq_true b) .nil)) (by kernel_rfl)
      ·intro h;obtain rfl:=b9 h;exact bI (aK (hs:=[.dec true,.aM,.aM,.run 4,.val (.int .u8 a),.run 2,.dec true,.run 2,.dec false,.run 3,.dec true,.run 2,.dec false,.run 4,.dec false,.run 6,.dec false,.run 2,.dec false,.run 3,.dec true,.run 2,.aM,.run 1]) (want:=[2]) (by kernel_rfl) (.cons (decide_eq_true (show(a>57) by omega))<|.cons (decide_eq_false (show ¬ (a<48) by omega))<|.cons (dP q)<|.cons (dP (show ¬ (a=95) by omega))<|.cons (decide_eq_false (show ¬ (a≤90) by omega))<|.cons (decide_eq_true (show(a≥65) by omega))<|.cons (decide_eq_false l)<|.cons (decide_eq_true c)<|.cons (gE (k:=.i64) (P:=C0.P) (t:=9) (by kernel_rfl) d)<|.cons (decide_eq_true b) .nil)) (by kernel_rfl)
    ·refine aU (fun e=>?_) (fun e=>?_)
     ·refine aU (fun g=>?_) (fun g=>?_)
      ·intro h;exact cS (aK (hs:=[.dec true,.aM,.aM,.run 4,.val (.int .u8 a),.run 2,.dec false,.run 4,.dec true,.run 2,.dec true,.run 9,.aM,.run 2]) (want:=[0,7,8]) (by kernel_rfl) (.cons (decide_eq_true g)<|.cons (decide_eq_true e)<|.cons (decide_eq_false c)<|.cons (gE (k:=.i64) (P:=C0.P) (t:=9) (by kernel_rfl) d)<|.cons (decide_eq_true b) .nil)) (ih (IntKind.wrap .i64 (f+1)) _ h)
      ·refine aU (fun m=>?_) (fun m=>?_)
       ·intro h;exact cS (aK (hs:=[.dec true,.aM,.aM,.run 4,.val (.int .u8 a),.run 2,.dec false,.run 4,.dec true,.run 2,.dec false,.run 4,.dec true,.run 6,.aM,.run 2]) (want:=[0,7,8]) (by kernel_rfl) (.cons (eG m)<|.cons (decide_eq_false g)<|.cons (decide_eq_true e)<|.cons (decide_eq_false c)<|.cons (gE (k:=.i64) (P:=C0.P) (t:=9) (by kernel_rfl) d)<|.cons (decide_eq_true b) .nil)) (ih (IntKind.wrap .i64 (f+1)) _ h)
       ·refine aU (fun s=>?_) (fun s=>?_)
        ·intro h;obtain rfl:=b9 h;exact bI (aK (hs:=[.dec true,.aM,.aM,.run 4,.val (.int .u8 a),.run 2,.dec false,.run 4,.dec true,.run 2,.dec false,.run 4,.dec false,.run 6,.dec true,.run 5,.aM,.run 1]) (want:=[2]) (by kernel_rfl) (.cons (eG s)<|.cons (dP m)<|.cons (decide_eq_false g)<|.cons (decide_eq_true e)<|.cons (decide_eq_false c)<|.cons (gE (k:=.i64) (P:=C0.P) (t:=9) (by kernel_rfl) d)<|.cons (decide_eq_true b) .nil)) (by kernel_rfl)
        ·intro h;obtain rfl:=b9 h;exact bI (aK (hs:=[.dec true,.aM,.aM,.run 4,.val (.int .u8 a),.run 2,.dec false,.run 4,.dec true,.run 2,.dec false,.run 4,.dec false,.run 6,.dec false,.run 2,.dec false,.run 3,.dec true,.run 2,.aM,.run 1]) (want:=[2]) (by kernel_rfl) (.cons (decide_eq_true (show(a>57) by omega))<|.cons (decide_eq_false (show ¬ (a<48) by omega))<|.cons (dP s)<|.cons (dP m)<|.cons (decide_eq_false g)<|.cons (decide_eq_true e)<|.cons (decide_eq_false c)<|.cons (gE (k:=.i64) (P:=C0.P) (t:=9) (by kernel_rfl) d)<|.cons (decide_eq_true b) .nil)) (by kernel_rfl)
     ·refine aU (fun i=>?_) (fun i=>?_)
      ·intro h;obtain rfl:=b9 h;exact bI (aK (hs:=[.dec true,.aM,.aM,.run 4,.val (.int .u8 a),.run 2,.dec false,.run 4,.dec false,.run 5,.dec false,.run 6,.dec true,.run 5,.aM,.run 1]) (want:=[2]) (by kernel_rfl) (.cons (eG i)<|.cons (dP (show ¬ (a=95) by omega))<|.cons (decide_eq_false e)<|.cons (decide_eq_false c)<|.cons (gE (k:=.i64) (P:=C0.P) (t:=9) (by kernel_rfl) d)<|.cons (decide_eq_true b) .nil)) (by kernel_rfl)
      ·refine aU (fun p=>?_) (fun p=>?_)
       ·intro h;obtain rfl:=b9 h;exact bI (aK (hs:=[.dec true,.aM,.aM,.run 4,.val (.int .u8 a),.run 2,.dec false,.run 4,.dec false,.run 5,.dec false,.run 6,.dec false,.run 2,.dec true,.run 4,.aM,.run 1]) (want:=[2]) (by kernel_rfl) (.cons (decide_eq_true p)<|.cons (dP i)<|.cons (dP (show ¬ (a=95) by omega))<|.cons (decide_eq_false e)<|.cons (decide_eq_false c)<|.cons (gE (k:=.i64) (P:=C0.P) (t:=9) (by kernel_rfl) d)<|.cons (decide_eq_true b) .nil)) (by kernel_rfl)
       ·refine aU (fun u=>?_) (fun u=>?_)
        ·intro h;obtain rfl:=b9 h;exact bI (aK (hs:=[.dec true,.aM,.aM,.run 4,.val (.int .u8 a),.run 2,.dec false,.run 4,.dec false,.run 5,.dec false,.run 6,.dec false,.run 2,.dec false,.run 3,.dec true,.run 2,.aM,.run 1]) (want:=[2]) (by kernel_rfl) (.cons (decide_eq_true u)<|.cons (decide_eq_false p)<|.cons (dP i)<|.cons (dP (show ¬ (a=95) by omega))<|.cons (decide_eq_false e)<|.cons (decide_eq_false c)<|.cons (gE (k:=.i64) (P:=C0.P) (t:=9) (by kernel_rfl) d)<|.cons (decide_eq_true b) .nil)) (by kernel_rfl)
        ·intro h;exact cS (aK (hs:=[.dec true,.aM,.aM,.run 4,.val (.int .u8 a),.run 2,.dec false,.run 4,.dec false,.run 5,.dec false,.run 6,.dec false,.run 2,.dec false,.run 3,.dec false,.run 2,.aM,.run 2]) (want:=[0,7,8]) (by kernel_rfl) (.cons (decide_eq_false u)<|.cons (decide_eq_false p)<|.cons (dP i)<|.cons (dP (show ¬ (a=95) by omega))<|.cons (decide_eq_false e)<|.cons (decide_eq_false c)<|.cons (gE (k:=.i64) (P:=C0.P) (t:=9) (by kernel_rfl) d)<|.cons (decide_eq_true b) .nil)) (ih (IntKind.wrap .i64 (f+1)) _ h)
   ·intro h;obtain rfl:=b9 h;exact bI (aK (hs:=[.dec false,.aM]) (want:=[]) (by kernel_rfl) (.cons (decide_eq_false b) .nil)) (by kernel_rfl)
def wC (R : Nat) (a : List UInt8) : Option (Bool) :=
 (gI R a (List.length a:Int) R 0).bind fun o=>match o with
 | .inl b=>
  some b
 | .inr _ =>
  if((List.length a:Int)≥1) then
   if((List.length a:Int)≤16) then
    some true
   else
    some false
  else
   some false
theorem Fw {R : Nat} (n : Nat) {a : List UInt8} (b : St) {r : Bool} (h : wC R a = some r):
 aR (aW C0 sG R (n+1)) false 129 [(.str a)] b (.bool r) b:=by
 revert h;unfold wC;refine aA fun o e=>?_
 rcases o with f | _
 ·intro h;obtain rfl:=b9 h;exact dE (hs:=[.run 4,.aM,.abs [0,7,8] .ret [(2,(.bool f))] b]) (by kernel_rfl) (aG (bY (uZ R n a (List.length a:Int) b R 0 _ e)) eE)
 ·have q9003:=aG (bY (uZ R n a (List.length a:Int) b R 0 _ e)) eE
  let q8002:List Hint:=[.run 4,.aM,.abs [0,7,8] (.exit 0) [] b,.run 2]
  refine aU (fun c=>?_) (fun c=>?_)
  ·refine aU (fun d=>?_) (fun d=>?_)
   ·intro h;obtain rfl:=b9 h;exact dE (hs:=q8002 ++ [.dec true,.run 3,.dec true,.run 2]) (by kernel_rfl) (aG (decide_eq_true d)<|aG (decide_eq_true c) q9003)
   ·intro h;obtain rfl:=b9 h;exact dE (hs:=q8002 ++ [.dec true,.run 3,.dec false,.run 2]) (by kernel_rfl) (aG (decide_eq_false d)<|aG (decide_eq_true c) q9003)
  ·intro h;obtain rfl:=b9 h;exact dE (hs:=q8002 ++ [.dec false,.run 3]) (by kernel_rfl) (aG (decide_eq_false c) q9003)
def sP (R : Nat) (a : Int) : Option (Bool) :=
 if(a≥97) then
  if(a≤122) then
   some true
  else
   some false
 else
  if (a ≥ 65) then
   if(a≤90) then
    some true
   else
    if(a=95) then
     some true
    else
     some false
  else
   some false
theorem yM {R : Nat} (n : Nat) {a : Int} (g : St) {r : Bool} (h : sP R a = some r):
 aR (aW C0 sG R (n+1)) false 146 [(.int .u8 a)] g (.bool r) g:=by
 revert h;unfold sP;refine aU (fun b=>?_) (fun b=>?_)
 ·refine aU (fun d=>?_) (fun d=>?_)
  ·intro h;obtain rfl:=b9 h;exact dE (hs:=[.run 2,.dec true,.run 2,.dec true,.run 6]) (by kernel_rfl) (aG (decide_eq_true d)<|aG (decide_eq_true b) eE)
  ·intro h;obtain rfl:=b9 h;exact dE (hs:=[.run 2,.dec true,.run 2,.dec false,.run 3,.dec true,.run 2,.dec false,.run 4,.dec false,.run 2]) (by kernel_rfl) (aG (dP (show ¬ (a=95) by omega))<|aG (decide_eq_false (show ¬ (a≤90) by omega))<|aG (decide_eq_true (show(a≥65) by omega))<|aG (decide_eq_false d)<|aG (decide_eq_true b) eE)
 ·have q9004:=aG (decide_eq_false b) eE
  let q8003:List Hint:=[.run 2,.dec false,.run 4]
  refine aU (fun e=>?_) (fun e=>?_)
  ·have q9005:=aG (decide_eq_true e) q9004
   refine aU (fun c=>?_) (fun c=>?_)
   ·intro h;obtain rfl:=b9 h;exact dE (hs:=q8003 ++ [.dec true,.run 2,.dec true,.run 5]) (by kernel_rfl) (aG (decide_eq_true c) q9005)
   ·refine aU (fun f=>?_) (fun f=>?_)
    ·intro h;obtain rfl:=b9 h;exact dE (hs:=q8003 ++ [.dec true,.run 2,.dec false,.run 4,.dec true,.run 2]) (by kernel_rfl) (aG (eG f)<|aG (decide_eq_false c) q9005)
    ·intro h;obtain rfl:=b9 h;exact dE (hs:=q8003 ++ [.dec true,.run 2,.dec false,.run 4,.dec false,.run 2]) (by kernel_rfl) (aG (dP f)<|aG (decide_eq_false c) q9005)
  ·intro h;obtain rfl:=b9 h;exact dE (hs:=q8003 ++ [.dec false,.run 5,.dec false,.run 2]) (by kernel_rfl) (aG (dP (show ¬ (a=95) by omega))<|aG (decide_eq_false e) q9004)
def wA (R : Nat) (a : Int) : Option (Bool) :=
 if(a≥48) then
  if(a≤57) then
   some true
  else
   some false
 else
  some false
theorem CM {R:Nat}(n:Nat){c:Int}(d:St){r:Bool}(h:wA R c=some r):
 aR (aW C0 sG R (n+1)) false 148 [(.int .u8 c)] d (.bool r) d:=by
 revert h;unfold wA;refine aU (fun a=>?_) (fun a=>?_)
 ·refine aU (fun b=>?_) (fun b=>?_)
  ·intro h;obtain rfl:=b9 h;exact dE (hs:=[.run 2,.dec true,.run 2,.dec true,.run 2]) (by kernel_rfl) (aG (decide_eq_true b)<|aG (decide_eq_true a) eE)
  ·intro h;obtain rfl:=b9 h;exact dE (hs:=[.run 2,.dec true,.run 2,.dec false,.run 2]) (by kernel_rfl) (aG (decide_eq_false b)<|aG (decide_eq_true a) eE)
 ·intro h;obtain rfl:=b9 h;exact dE (hs:=[.run 2,.dec false,.run 3]) (by kernel_rfl) (aG (decide_eq_false a) eE)
def yO (R : Nat) (a : Int) : Option (Bool) :=
 if(a=32) then
  some true
 else
  if(a=10) then
   some true
  else
   if(a=9) then
    some true
   else
    some false
theorem Ge {R : Nat} (n : Nat) {d : Int} (e : St) {r : Bool} (h : yO R d = some r):
 aR (aW C0 sG R (n+1)) false 118 [(.int .u8 d)] e (.bool r) e:=by
 revert h;unfold yO;refine aU (fun a=>?_) (fun a=>?_)
 ·intro h;obtain rfl:=b9 h;exact dE (hs:=[.run 2,.dec true,.run 5]) (by kernel_rfl) (aG (eG a) eE)
 ·refine aU (fun b=>?_) (fun b=>?_)
  ·intro h;obtain rfl:=b9 h;exact dE (hs:=[.run 2,.dec false,.run 2,.dec true,.run 4]) (by kernel_rfl) (aG (eG b)<|aG (dP a) eE)
  ·refine aU (fun c=>?_) (fun c=>?_)
   ·intro h;obtain rfl:=b9 h;exact dE (hs:=[.run 2,.dec false,.run 2,.dec false,.run 3,.dec true,.run 2]) (by kernel_rfl) (aG (eG c)<|aG (dP b)<|aG (dP a) eE)
   ·intro h;obtain rfl:=b9 h;exact dE (hs:=[.run 2,.dec false,.run 2,.dec false,.run 3,.dec false,.run 2]) (by kernel_rfl) (aG (dP c)<|aG (dP b)<|aG (dP a) eE)
def zB (R:Nat)(a:Int):Option (Bool):=
 (sP R a).bind fun b=>
 if b=true then
  some true
 else
  (wA R a).bind fun c=>
  some c
theorem HB {R:Nat}(n:Nat){c:Int}(a:St){r:Bool}(h:zB R c=some r):
 aR (aW C0 sG R (n+2)) false 172 [(.int .u8 c)] a (.bool r) a:=by
 revert h;unfold zB;refine aA fun g d=>?_;refine aU (fun b=>?_) (fun b=>?_)
 ·subst b;intro h;obtain rfl:=b9 h;exact dE (hs:=[.run 2,.call (.bool true) a,.run 3]) (by kernel_rfl) (aG (yM n a d) eE)
 ·obtain rfl:=bF b;refine aA fun e f=>?_;intro h;obtain rfl:=b9 h;exact dE (hs:=[.run 2,.call (.bool false) a,.run 2,.call (.bool e) a,.run 2]) (by kernel_rfl) (aG (CM n a f)<|aG (yM n a d) eE)
def mH (R:Nat)(a0:List UInt8):Option (List UInt8×Int):=(wO 2000000 a0 St.empty).map fun r=>(r.1,r.2.1)
def tF (args:List AV):Option AV:=match args with
 | [.str a0]=>(mH 0 a0).map fun r=>(.tuple [(.str r.1),(.int .i64 r.2)])
 | _=>none
theorem Ff:nX C0 sG (144,tF):=by
 intro args v h0
 have h:tF args=some v:=h0
 unfold tF at h
 split at h
 ·obtain⟨q0,h2,rfl⟩:=Option.map_eq_some_iff.1 h
  obtain⟨q,h1,rfl⟩:=Option.map_eq_some_iff.1 h2
  exact⟨rfl,rfl,2000000,0+1,_,Fg 0 h1⟩
 ·cases h
def qE (R:Nat)(a0:List UInt8):Option (List UInt8×Bool):=(A3 2000000 a0 St.empty).map fun r=>(r.1,r.2.1)
def zQ (args:List AV):Option AV:=match args with
 | [.str a0]=>(qE 0 a0).map fun r=>(.tuple [(.str r.1),(.bool r.2)])
 | _=>none
theorem Il:nX C0 sG (145,zQ):=by
 intro args v h0
 have h:zQ args=some v:=h0
 unfold zQ at h
 split at h
 ·obtain⟨q0,h2,rfl⟩:=Option.map_eq_some_iff.1 h
  obtain⟨q,h1,rfl⟩:=Option.map_eq_some_iff.1 h2
  exact⟨rfl,rfl,2000000,0+5,_,JN 0 h1⟩
 ·cases h
def xC (R:Nat)(a0:List UInt8):Option (Bool):=(Cl 2000000 a0 St.empty).map fun r=>r.1
def AG (args:List AV):Option AV:=match args with
 | [.str a0]=>(xC 0 a0).map fun r=>(.bool r)
 | _=>none
theorem JH:nX C0 sG (173,AG):=by
 intro args v h0
 have h:AG args=some v:=h0
 unfold AG at h
 split at h
 ·obtain⟨q0,h2,rfl⟩:=Option.map_eq_some_iff.1 h
  obtain⟨q,h1,rfl⟩:=Option.map_eq_some_iff.1 h2
  exact⟨rfl,rfl,2000000,0+3,_,JW 0 h1⟩
 ·cases h
def oZ (R:Nat)(a0:List UInt8):Option (Bool):=(wC 2000000 a0)
def tM (args:List AV):Option AV:=match args with
 | [.str a0]=>(oZ 0 a0).map fun r=>(.bool r)
 | _=>none
theorem Fy:nX C0 sG (129,tM):=by
 intro args v h0
 have h:tM args=some v:=h0
 unfold tM at h
 split at h
 ·obtain⟨q,h1,rfl⟩:=Option.map_eq_some_iff.1 h
  exact⟨rfl,rfl,2000000,0+1,_,Fw 0 St.empty h1⟩
 ·cases h
def p6 (R:Nat)(a0:Int):Option (Bool):=(sP 2000000 a0)
def tH (args:List AV):Option AV:=match args with
 | [.int .u8 a0]=>(p6 0 a0).map fun r=>(.bool r)
 | _=>none
theorem G3:nX C0 sG (146,tH):=by
 intro args v h0
 have h:tH args=some v:=h0
 unfold tH at h
 split at h
 ·obtain⟨q,h1,rfl⟩:=Option.map_eq_some_iff.1 h
  exact⟨rfl,rfl,2000000,0+1,_,yM 0 St.empty h1⟩
 ·cases h
def nN (R:Nat)(a0:Int):Option (Bool):=(wA 2000000 a0)
def vG (args:List AV):Option AV:=match args with
 | [.int .u8 a0]=>(nN 0 a0).map fun r=>(.bool r)
 | _=>none
theorem HI:nX C0 sG (148,vG):=by
 intro args v h0
 have h:vG args=some v:=h0
 unfold vG at h
 split at h
 ·obtain⟨q,h1,rfl⟩:=Option.map_eq_some_iff.1 h
  exact⟨rfl,rfl,2000000,0+1,_,CM 0 St.empty h1⟩
 ·cases h
def nR (R:Nat)(a0:Int):Option (Bool):=(yO 2000000 a0)
def vI (args:List AV):Option AV:=match args with
 | [.int .u8 a0]=>(nR 0 a0).map fun r=>(.bool r)
 | _=>none
theorem Gx:nX C0 sG (118,vI):=by
 intro args v h0
 have h:vI args=some v:=h0
 unfold vI at h
 split at h
 ·obtain⟨q,h1,rfl⟩:=Option.map_eq_some_iff.1 h
  exact⟨rfl,rfl,2000000,0+1,_,Ge 0 St.empty h1⟩
 ·cases h
def qY (R:Nat)(a0:Int):Option (Bool):=(zB 2000000 a0)
def vQ (args:List AV):Option AV:=match args with
 | [.int .u8 a0]=>(qY 0 a0).map fun r=>(.bool r)
 | _=>none
theorem Gi:nX C0 sG (172,vQ):=by
 intro args v h0
 have h:vQ args=some v:=h0
 unfold vQ at h
 split at h
 ·obtain⟨q,h1,rfl⟩:=Option.map_eq_some_iff.1 h
  exact⟨rfl,rfl,2000000,0+2,_,HB 0 St.empty h1⟩
 ·cases h
def rO:List (Nat×(List AV→Option AV)):=[(144,tF),(145,zQ),(173,AG),(129,tM),(146,tH),(148,vG),(118,vI),(172,vQ)]
def vP:Ext:=yE (tN rO) sG
theorem KX:oP C0.P vP:=FY FW Jj I7 Jj (by kernel_rfl) (.cons Ff<|.cons Il<|.cons JH<|.cons Fy<|.cons G3<|.cons HI<|.cons Gx<|.cons Gi<|.nil)
theorem Br (R:Nat)(a0:List UInt8)(r:List UInt8×Int)(h:mH R a0=some r):vP 144 [.str a0]=some (.tuple [(.str r.1),(.int .i64 r.2)]):=
 mT ((by kernel_rfl:tN rO 144 [.str a0]=(mH R a0).map fun r=>(.tuple [(.str r.1),(.int .i64 r.2)])).trans (by rw[h]; rfl))
theorem Du (R:Nat)(a0:List UInt8)(r:List UInt8×Bool)(h:qE R a0=some r):vP 145 [.str a0]=some (.tuple [(.str r.1),(.bool r.2)]):=
 mT ((by kernel_rfl:tN rO 145 [.str a0]=(qE R a0).map fun r=>(.tuple [(.str r.1),(.bool r.2)])).trans (by rw[h]; rfl))
theorem Dl (R:Nat)(a0:List UInt8)(r:Bool)(h:xC R a0=some r):vP 173 [.str a0]=some (.bool r):=
 mT ((by kernel_rfl:tN rO 173 [.str a0]=(xC R a0).map fun r=>(.bool r)).trans (by rw[h]; rfl))
theorem zG (R n:Nat)(a0:List UInt8)(st:St)(r:Bool)(h:xC R a0=some r):aR (aW C0 vP R (n+1)) false 173 [.str a0] st (.bool r) st:=kQ (Dl R a0 r h) st
theorem Bq (R:Nat)(a0:List UInt8)(r:Bool)(h:oZ R a0=some r):vP 129 [.str a0]=some (.bool r):=
 mT ((by kernel_rfl:tN rO 129 [.str a0]=(oZ R a0).map fun r=>(.bool r)).trans (by rw[h]; rfl))
theorem BP (R n:Nat)(a0:List UInt8)(st:St)(r:Bool)(h:oZ R a0=some r):aR (aW C0 vP R (n+1)) false 129 [.str a0] st (.bool r) st:=kQ (Bq R a0 r h) st
theorem By (R:Nat)(a0:Int)(r:Bool)(h:p6 R a0=some r):vP 146 [.int .u8 a0]=some (.bool r):=
 mT ((by kernel_rfl:tN rO 146 [.int .u8 a0]=(p6 R a0).map fun r=>(.bool r)).trans (by rw[h]; rfl))
theorem Cd (R:Nat)(a0:Int)(r:Bool)(h:nN R a0=some r):vP 148 [.int .u8 a0]=some (.bool r):=
 mT ((by kernel_rfl:tN rO 148 [.int .u8 a0]=(nN R a0).map fun r=>(.bool r)).trans (by rw[h]; rfl))
theorem Cm (R:Nat)(a0:Int)(r:Bool)(h:nR R a0=some r):vP 118 [.int .u8 a0]=some (.bool r):=
 mT ((by kernel_rfl:tN rO 118 [.int .u8 a0]=(nR R a0).map fun r=>(.bool r)).trans (by rw[h]; rfl))
theorem Ck (R:Nat)(a0:Int)(r:Bool)(h:qY R a0=some r):vP 172 [.int .u8 a0]=some (.bool r):=
 mT ((by kernel_rfl:tN rO 172 [.int .u8 a0]=(qY R a0).map fun r=>(.bool r)).trans (by rw[h]; rfl))
theorem Bs (R n:Nat)(a0:Int)(st:St)(r:Bool)(h:qY R a0=some r):aR (aW C0 vP R (n+1)) false 172 [.int .u8 a0] st (.bool r) st:=kQ (Ck R a0 r h) st
end
end Go.Proofs.YthodfojhbbendaaGreatDoor
end
section
set_option linter.all false
set_option maxRecDepth 100000
namespace Go.Proofs.YthodfojhbbendaaGreatDoor
open Go Go.Ev
noncomputable section
instance RA:xO C0.P 90 1:=⟨⟨5,1,.int .u8 0,by kernel_rfl,by kernel_rfl,by kernel_rfl,by kernel_rfl,by omega,by omega,rfl,rfl⟩⟩
theorem wN {k m:Nat}(h:k+m≤9223372036854775807):IntKind.wrap .i64 ((k:Int)+(m:Int))=((k+m:Nat):Int):=by
 rw[wrap64 (by omega) (by omega)]; omega
theorem w1 {k:Nat}(h:k+1≤9223372036854775807):IntKind.wrap .i64 ((k:Int)+1)=((k+1:Nat):Int):=by
 rw[wrap64 (by omega) (by omega)]; omega
def oA : List UInt8 → Option (List UInt8 × Nat)
 | []=>none
 | c :: r => if c = 39 then (match r with
  | []=>some ([],1)
  | d :: r'=>if d=39 then(oA r').map fun p=>(39 :: p.1,p.2+2) else some ([],1))
   else(oA r).map fun p=>(c :: p.1,p.2+1)
theorem FC {c:UInt8}(r:List UInt8)(h:¬ c=39):oA (c :: r)=(oA r).map fun p=>(c :: p.1,p.2+1):=by
 cases r <;> simp[oA,h]
theorem OW (c:UInt8):((c.toNat:Int)=39)↔c=39:=by
 constructor
 ·intro h
  have:c.toNat=39:=by omega
  exact UInt8.toNat_inj.1 this
 ·rintro rfl; rfl
theorem AJ (l:List UInt8)(c:UInt8):eO l ++ (AV.int .u8 (c.toNat:Int)).cells=eO (l ++ [c]):=by simp[eO,AV.cells]
theorem drop_cons {s:List UInt8}{k:Nat}(h:k<s.length):s.drop k=s[k] :: s.drop (k+1):=List.drop_eq_getElem_cons h
theorem IQ (R : Nat) (s : List UInt8) (hs : s.length ≤ 1000000) : ∀ (r k : Nat) (x : AV) (st : St) (acc : List UInt8), Sl st 1 x (eO acc) → k ≤ s.length → s.length - k < r → acc.length ≤ k →
 ∃ st', fS R s r x (k : Int) st = some (match oA (s.drop k) with
  | some (t,n)=>.inl (acc ++ t,((k+n:Nat):Int),st')
  | none=>.inr st'):=by
 intro r
 induction r with
 | zero=>intro k x st acc h1 h2 h3; omega
 | succ r ih =>
   intro k x st acc hx hk hr ha
   unfold fS
   by_cases hlt:k<s.length
   ·rw[if_pos (by omega),tG hlt,Option.bind_some,drop_cons hlt]
    have hb:(eO acc).length≤iL:=by simp[eO,iL]; omega
    by_cases hq:s[k]=39
    ·rw[if_pos ((OW _).2 hq),w1 (by omega)]
     by_cases hlt2:k+1<s.length
     ·rw[if_pos (by omega),tG hlt2,Option.bind_some,drop_cons hlt2]
      by_cases hq2:s[k+1]=39
      ·rw[if_pos ((OW _).2 hq2),w1 (by omega)]
       obtain⟨x',st',e,hS,hK,_⟩:=OT (P:=C0.P) (t:=90) (v:=.int .u8 (s[k].toNat:Int)) (fun p=>fS R s r p.1 ((k+1+1:Nat):Int) p.2) hx rfl rfl hb (by omega)
       rw[AJ] at hS
       obtain⟨st2,h2⟩:=ih (k+2) x' st' (acc ++ [s[k]]) hS (by omega) (by omega) (by simp; omega)
       refine⟨st2,Eq.trans e (h2.trans ?_)⟩
       simp only[oA,hq,hq2,if_true]
       cases oA (List.drop (k+2) s) with
       | none=>rfl
       | some p=>simp; omega
      ·rw[if_neg (fun h=>hq2 ((OW _).1 h)),Hs hx,Option.bind_some]
       exact⟨st,by simp[oA,hq,hq2]⟩
     ·rw[if_neg (by omega),Hs hx,Option.bind_some,List.drop_eq_nil_of_le (by omega)]
      exact⟨st,by simp[oA,hq]⟩
    ·rw[if_neg (fun h=>hq ((OW _).1 h)),w1 (by omega)]
     obtain⟨x',st',e,hS,hK,_⟩:=OT (P:=C0.P) (t:=90) (v:=.int .u8 (s[k].toNat:Int)) (fun p=>fS R s r p.1 ((k+1:Nat):Int) p.2) hx rfl rfl hb (by omega)
     rw[AJ] at hS
     obtain⟨st2,h2⟩:=ih (k+1) x' st' (acc ++ [s[k]]) hS (by omega) (by omega) (by simp; omega)
     refine⟨st2,Eq.trans e (h2.trans ?_)⟩
     rw[FC _ hq]
     cases oA (List.drop (k+1) s) with
     | none=>rfl
     | some p=>simp; omega
   ·rw[if_neg (by omega),List.drop_eq_nil_of_le (by omega)]
    exact⟨st,by simp[oA]⟩
end
end Go.Proofs.YthodfojhbbendaaGreatDoor
end
section
set_option linter.all false
set_option maxRecDepth 100000
namespace Go.Proofs.YthodfojhbbendaaGreatDoor
open Go Go.Ev
noncomputable section
theorem L8 (R:Nat)(s:List UInt8)(st:St)(hs:s.length≤1000000)(h1:1≤s.length)(hR:s.length<R):
 ∃ st', wO R s st = some (match oA (s.drop 1) with
  | some (t,n)=>(t,((1+n:Nat):Int),st')
  | none=>([],0,st')):=by
 obtain⟨st',h⟩:=IQ R s hs R 1 .aF st [] (Sl.nil st 1) h1 (by omega) (by simp)
 refine⟨st',?_⟩
 unfold wO
 rw[show((1:Int))=((1:Nat):Int) from rfl,h,Option.bind_some]
 cases oA (List.drop 1 s) with
 | none=>rfl
 | some p=>simp
def Cg (n:Nat):Nat:=if 48≤n∧n≤57 then n - 48 else if 97≤n∧n≤102 then n - 87 else 16
def unhex:List UInt8→Option (List UInt8)
 | []=>some []
 | [_]=>none
 | a :: b :: r=>if Cg a.toNat>15∨Cg b.toNat>15 then none else(unhex r).map fun l=>UInt8.ofNat (Cg a.toNat * 16+Cg b.toNat) :: l
theorem JE:∀ n:Fin 256,wM [48,49,50,51,52,53,54,55,56,57,97,98,99,100,101,102] n.1 0=if Cg n.1≤15 then((Cg n.1:Nat):Int) else -1:=by decide +kernel
theorem Ga (R:Nat)(c:UInt8):sY R (c.toNat:Int)=some (if Cg c.toNat≤15 then((Cg c.toNat:Nat):Int) else -1):=by
 have hc:c.toNat<256:=c.toNat_lt
 have:=JE ⟨c.toNat,hc⟩
 unfold sY oR stringslite_IndexByte xIdx
 simp only[Option.bind_some,Int.toNat_natCast,Nat.mod_eq_of_lt hc]
 rw[this]
theorem NT:∀ a b:Fin 16,IntKind.wrap .u8 (QU .i64 (IntKind.wrap .i64 ((a.1:Int) * 2 ^ 4)) (b.1:Int))=((a.1 * 16+b.1:Nat):Int):=by decide +kernel
theorem PR {a b:Nat}(ha:a≤15)(hb:b≤15):IntKind.wrap .u8 (QU .i64 (IntKind.wrap .i64 ((a:Int) * 2 ^ 4)) (b:Int))=(((UInt8.ofNat (a * 16+b)).toNat:Nat):Int):=by
 rw[NT ⟨a,by omega⟩ ⟨b,by omega⟩]
 simp only[UInt8.toNat_ofNat']
 rw[Nat.mod_eq_of_lt (by omega)]
theorem MH {s:List UInt8}{k:Nat}(h:k+1<s.length):s.drop k=s[k] :: s[k+1] :: s.drop (k+2):=by
 rw[drop_cons (by omega:k<s.length),drop_cons h]
theorem Cv:∀(l t:List UInt8),unhex l=some t→l.length=2 * t.length
 | [],t,h=>by cases h; rfl
 | [_],t,h=>by cases h
 | a :: b :: r, t, h => by
   simp only[unhex] at h
   split at h
   ·cases h
   ·obtain⟨u,h1,rfl⟩:=Option.map_eq_some_iff.1 h
    have:=Cv r u h1
    simp; omega
theorem Mo (R : Nat) (s : List UInt8) (hs : s.length ≤ 1000000) (room : Nat) (hroom : room = s.length / 2) : ∀ (r k : Nat) (x : AV) (st : St) (acc : List UInt8), Sr st 1 x room (eO acc) → k ≤ s.length → s.length - k < r → k = 2 * acc.length →
 ∃ st', (∀ t, unhex (s.drop k) = some t → ∃ x', iZ R s r x (k : Int) st = some (.inr (x', st')) ∧ Sr st' 1 x' room (eO (acc ++ t))) ∧
  (unhex (s.drop k)=none→iZ R s r x (k:Int) st=some (.inl ([],false,st'))∨(s.length % 2=1∧ ∃ x' t,iZ R s r x (k:Int) st=some (.inr (x',st'))∧Sr st' 1 x' room (eO t))):=by
 intro r
 induction r with
 | zero=>intro k x st acc h1 h2 h3; omega
 | succ r ih =>
   intro k x st acc hx hk hr ha
   unfold iZ
   rw[w1 (by omega)]
   by_cases hlt:k+1<s.length
   ·rw[if_pos (by omega),tG (by omega:k<s.length),Option.bind_some,tG hlt,Option.bind_some,Ga,Option.bind_some,Ga,Option.bind_some,MH hlt]
    by_cases h1:Cg s[k].toNat≤15
    ·rw[if_pos h1,if_neg (by omega)]
     by_cases h2:Cg s[k+1].toNat≤15
     ·rw[if_pos h2,if_neg (by omega),PR h1 h2,show((k:Int)+2)=(k:Int)+((2:Nat):Int) from rfl,wN (by omega)]
      have hu:unhex (s[k] :: s[k+1] :: s.drop (k+2))=(unhex (s.drop (k+2))).map fun l=>UInt8.ofNat (Cg s[k].toNat * 16+Cg s[k+1].toNat) :: l:=by
            rw[unhex,if_neg (by omega)]
      rw[hu]
      generalize UInt8.ofNat (Cg s[k].toNat * 16+Cg s[k+1].toNat)=v
      obtain⟨x',st',e,hS⟩:=On (P:=C0.P) (t:=90) (v:=.int .u8 (v.toNat:Int)) (fun p=>iZ R s r p.1 ((k+2:Nat):Int) p.2) hx rfl rfl (by simp[eO]; omega) (by simp[iL]; omega) (by omega)
      rw[AJ] at hS
      obtain⟨st2,h3,h4⟩:=ih (k+2) x' st' (acc ++ [v]) hS (by omega) (by omega) (by simp; omega)
      refine⟨st2,fun t ht=>?_,fun hn=>?_⟩
      ·obtain⟨u,h5,rfl⟩:=Option.map_eq_some_iff.1 ht
       obtain⟨x2,h6,h7⟩:=h3 u h5
       exact⟨x2,Eq.trans e h6,by simpa using h7⟩
      ·rw[Option.map_eq_none_iff] at hn
       rcases h4 hn with h5 | ⟨h5,x2,t,h6,h7⟩
       ·exact .inl (Eq.trans e h5)
       ·exact .inr ⟨h5,x2,t,Eq.trans e h6,h7⟩
     ·rw[if_neg h2,if_pos (by omega)]
      refine⟨st,fun t ht=>?_,fun _=>.inl rfl⟩
      rw[unhex,if_pos (by omega)] at ht
      cases ht
    ·rw[if_neg h1,if_pos (by omega)]
     refine⟨st,fun t ht=>?_,fun _=>.inl rfl⟩
     rw[unhex,if_pos (by omega)] at ht
     cases ht
   ·rw[if_neg (by omega)]
    refine⟨st,fun t ht=>⟨x,rfl,?_⟩,fun hn=>.inr ⟨?_,x,acc,rfl,hx⟩⟩
    ·rcases Nat.lt_or_ge k s.length with h | h
     ·rw[drop_cons h,List.drop_eq_nil_of_le (by omega)] at ht
      cases ht
     ·rw[List.drop_eq_nil_of_le h] at ht
      cases ht
      simpa using hx
    ·rcases Nat.lt_or_ge k s.length with h | h
     ·omega
     ·rw[List.drop_eq_nil_of_le h] at hn
      cases hn
theorem MC (R : Nat) (s : List UInt8) (st : St) (hs : s.length ≤ 1000000) (hR : s.length < R) :
 ∃ st',(∀ t,unhex s=some t→A3 R s st=some (t,true,st'))∧(unhex s=none→ ∃ t,A3 R s st=some (t,false,st')):=by
 have e0:IntKind.wrap .i64 (Int.tdiv (List.length s:Int) 2)=((s.length / 2:Nat):Int):=by
  rw[Int.tdiv_eq_ediv_of_nonneg (by omega),wrap64 (by omega) (by omega)]; omega
 have em:Int.tmod (List.length s:Int) 2=((s.length % 2:Nat):Int):=by
  rw[Int.tmod_eq_emod_of_nonneg (by omega)]; omega
 obtain⟨x,st1,h1,h2,_⟩:=NJ (P:=C0.P) (t:=90) (k:=.i64) (k':=.i64) (c:=s.length / 2) st (by simp[iL]; omega)
 obtain⟨st2,h3,h4⟩:=Mo R s hs (s.length / 2) rfl R 0 x st1 [] h2 (by omega) (by omega) rfl
 refine⟨st2,fun t ht=>?_,fun hn=>?_⟩
 ·obtain⟨x',h5,h6⟩:=h3 t (by simpa using ht)
  unfold A3
  rw[e0,h1,Option.bind_some]
  simp only
  rw[show(0:Int)=((0:Nat):Int) from rfl,h5,Option.bind_some]
  simp only
  rw[IA h6 (oG _),Option.bind_some,em,if_pos (by have:=Cv s t ht; omega)]
  rfl
 ·unfold A3
  rw[e0,h1,Option.bind_some]
  simp only
  rcases h4 (by simpa using hn) with h5 | ⟨h5,x',t,h6,h7⟩
  ·exact⟨[],by rw[show(0:Int)=((0:Nat):Int) from rfl,h5,Option.bind_some]⟩
  ·exact⟨t,by
    rw[show(0:Int)=((0:Nat):Int) from rfl,h6,Option.bind_some]
    simp only
    rw[IA h7 (oG _),Option.bind_some,em,if_neg (by omega)]⟩
end
end Go.Proofs.YthodfojhbbendaaGreatDoor
end
section
set_option linter.all false
set_option maxRecDepth 100000
namespace Go.Proofs.YthodfojhbbendaaGreatDoor
open Go Go.Ev
noncomputable section
instance R5:xO C0.P 22 1:=⟨⟨9,16,.str [],by kernel_rfl,by kernel_rfl,by kernel_rfl,by kernel_rfl,by omega,by omega,rfl,rfl⟩⟩
instance RH:nT C0.P 9 false 1:=⟨by kernel_rfl,by kernel_rfl⟩
def keys:List (List UInt8):=[[65,78,68],[66,89],[67,79,85,78,84],[67,82,69,65,84,69],[68,69,76,69,84,69],[68,69,83,67],[70,65,76,83,69],[70,82,79,77],[72,73,83,84,79,82,89],[73,78,68,69,88],[73,78,83,69,82,84],[73,78,84,79],[73,83],[76,73,77,73,84],[78,79,84],[78,85,76,76],[79,78],[79,82],[79,82,68,69,82],[83,69,76,69,67,84],[83,69,84],[84,65,66,76,69],[84,82,85,69],[85,80,68,65,84,69],[86,65,76,85,69],[87,72,69,82,69]]
def isKey (s:List UInt8):Bool:=keys.any fun w=>decide (w=s)
theorem GY {s:List UInt8}:isKey s=true↔s ∈ keys:=by
 simp only[isKey,List.any_eq_true,decide_eq_true_eq]
 constructor
 ·rintro⟨w,h,rfl⟩; exact h
 ·exact fun h=>⟨s,h,rfl⟩
theorem Hg {P:Program}{t t':TypeId}[xO P t 1][nT P t' false 1]{st:St}{x:AV}{ks:List (List UInt8)}{kd:IntKind}{i:Nat}{α:Type}(k:List UInt8→Option α)(h:Sl st 1 x (ks.map AV.str))(hi:i<ks.length):
 ((bA P t x (.int kd (i:Int))).bind fun p=>(loadAt P st t' p).bind fun v=>(eY v).bind k)=k ks[i]:=by
 rw[NX (P:=P) (t:=t) (k:=kd) h (by simpa using hi),Option.bind_some,Nat.mul_one]
 have e:(ks.map AV.str).drop i=.str ks[i] :: (ks.map AV.str).drop (i+1):=by
  rw[List.drop_eq_getElem_cons (by simpa using hi)]
  simp
 rw[e,Em]
 rfl
theorem JB (R : Nat) (s : List UInt8) (ks : List (List UInt8)) (x : AV) (st : St) (hx : Sl st 1 x (ks.map AV.str)) (hl : ks.length ≤ 1000000) : ∀ (r k : Nat), k ≤ ks.length → ks.length - k < r →
 (s ∈ ks.drop k∧ ∃ i:Nat,bJ R x s (ks.length:Int) r (k:Int) st=some (.inl ((i:Int),st))) ∨
 (s ∉ ks.drop k∧bJ R x s (ks.length:Int) r (k:Int) st=some (.inr st)):=by
 intro r
 induction r with
 | zero=>intro k h1 h2; omega
 | succ r ih =>
   intro k h1 h2
   unfold bJ
   by_cases hlt:k<ks.length
   ·rw[if_pos (by omega)]
    rw[show(Option.bind (bA C0.P 22 x (.int .i64 (k:Int))) _:Option ((Int×St) ⊕ St))=_ from Hg (P:=C0.P) (t:=22) (t':=9) (kd:=.i64) (fun w=>if s=w then some (.inl ((k:Int),st)) else bJ R x s (ks.length:Int) r (IntKind.wrap .i64 ((k:Int)+1)) st) hx hlt]
    rw[List.drop_eq_getElem_cons hlt]
    by_cases e:s=ks[k]
    ·rw[if_pos e]
     exact .inl ⟨by rw[e]; exact List.mem_cons_self,k,rfl⟩
    ·rw[if_neg e,w1 (by omega)]
     rcases ih (k+1) hlt (by omega) with⟨h3,i,h4⟩ | ⟨h3,h4⟩
     ·exact .inl ⟨List.mem_cons_of_mem _ h3,i,h4⟩
     ·exact .inr ⟨fun h=>(List.mem_cons.1 h).elim e h3,h4⟩
   ·rw[if_neg (by omega),List.drop_eq_nil_of_le (by omega)]
    exact .inr ⟨by simp,rfl⟩
theorem Mj (st:St):Sl (st.push (.nE 26)) 1 (.sl st.next 26 26 1 (some 26) (keys.map AV.str)) (keys.map AV.str):=
 .inr ⟨_,_,_,_,rfl,rfl,Nat.lt_succ_self _,.inl rfl⟩
theorem P4 (R:Nat)(s:List UInt8)(st:St)(hR:26<R):∃ st',Cl R s st=some (isKey s,st'):=by
 have e:∀ st,eV (aY C0.P (C0.cQ 173) 22 26 ([(0,(.str [65,78,68])),(1,(.str [66,89])),(2,(.str [67,79,85,78,84])),(3,(.str [67,82,69,65,84,69])),(4,(.str [68,69,76,69,84,69])),(5,(.str [68,69,83,67])),(6,(.str [70,65,76,83,69])),(7,(.str [70,82,79,77])),(8,(.str [72,73,83,84,79,82,89])),(9,(.str [73,78,68,69,88])),(10,(.str [73,78,83,69,82,84])),(11,(.str [73,78,84,79])),(12,(.str [73,83])),(13,(.str [76,73,77,73,84])),(14,(.str [78,79,84])),(15,(.str [78,85,76,76])),(16,(.str [79,78])),(17,(.str [79,82])),(18,(.str [79,82,68,69,82])),(19,(.str [83,69,76,69,67,84])),(20,(.str [83,69,84])),(21,(.str [84,65,66,76,69])),(22,(.str [84,82,85,69])),(23,(.str [85,80,68,65,84,69])),(24,(.str [86,65,76,85,69])),(25,(.str [87,72,69,82,69]))])) st=some (.sl st.next 26 26 1 (some 26) (keys.map AV.str),st.push (.nE 26)):=fun st=>by kernel_rfl
 unfold Cl fQ hZ
 rw[e,Option.bind_some]
 simp only[lenOf,Option.bind_some]
 rcases JB R s keys _ _ (Mj st) (by decide) R 0 (by omega) (by simpa[keys] using hR) with⟨h1,i,h2⟩ | ⟨h1,h2⟩
 ·have h2':bJ R (.sl st.next 26 26 1 (some 26) (keys.map AV.str)) s ((26:Nat):Int) R 0 (st.push (.nE 26))=_:=h2
  rw[h2',(GY).2 (by simpa using h1)]
  simp only[Option.bind_some]
  rw[if_pos (by omega)]
  exact⟨_,rfl⟩
 ·have h2':bJ R (.sl st.next 26 26 1 (some 26) (keys.map AV.str)) s ((26:Nat):Int) R 0 (st.push (.nE 26))=_:=h2
  have h3:isKey s=false:=by
   cases h:isKey s with
   | false=>rfl
   | true=>exact absurd (GY.1 h) (by simpa using h1)
  rw[h2',h3]
  simp only[Option.bind_some]
  rw[if_neg (by omega)]
  exact⟨_,rfl⟩
end
end Go.Proofs.YthodfojhbbendaaGreatDoor
end
section
set_option linter.all false
set_option maxRecDepth 100000
namespace Go.Proofs.YthodfojhbbendaaGreatDoor
open Go Go.Ev
noncomputable section
def Lk (n:Nat):Bool:=(97≤n && n≤122) || (65≤n && n≤90) || n == 95
def BW (n:Nat):Bool:=48≤n && n≤57
def Fb (n:Nat):Bool:=n == 32 || n == 10 || n == 9
def vV (n:Nat):Bool:=Lk n || BW n
theorem J0:∀ n:Fin 256,sP 0 (n.1:Int)=some (Lk n.1):=by decide +kernel
theorem Kr:∀ n:Fin 256,wA 0 (n.1:Int)=some (BW n.1):=by decide +kernel
theorem LR:∀ n:Fin 256,yO 0 (n.1:Int)=some (Fb n.1):=by decide +kernel
theorem LK:∀ n:Fin 256,zB 0 (n.1:Int)=some (vV n.1):=by decide +kernel
theorem LD (R:Nat)(c:UInt8):sP R (c.toNat:Int)=some (Lk c.toNat):=J0 ⟨c.toNat,c.toNat_lt⟩
theorem M7 (R:Nat)(c:UInt8):wA R (c.toNat:Int)=some (BW c.toNat):=Kr ⟨c.toNat,c.toNat_lt⟩
theorem MS (R:Nat)(c:UInt8):yO R (c.toNat:Int)=some (Fb c.toNat):=LR ⟨c.toNat,c.toNat_lt⟩
theorem Ll (R:Nat)(c:UInt8):zB R (c.toNat:Int)=some (vV c.toNat):=LK ⟨c.toNat,c.toNat_lt⟩
def iJ (p:Nat→Bool)(s:List UInt8)(k:Nat):Nat:=((s.drop k).takeWhile fun c=>p c.toNat).length
theorem pF (p:Nat→Bool)(s:List UInt8)(k:Nat)(h:k≤s.length):k+iJ p s k≤s.length:=by
 have h1:((s.drop k).takeWhile fun c=>p c.toNat).length≤(s.drop k).length:=List.Sublist.length_le (List.takeWhile_sublist _)
 rw[List.length_drop] at h1
 unfold iJ
 omega
theorem BM {p:Nat→Bool}{s:List UInt8}{k:Nat}(h:k<s.length)(hp:p s[k].toNat=true):iJ p s k=1+iJ p s (k+1):=by
 unfold iJ
 rw[drop_cons h,List.takeWhile_cons_of_pos (p:=fun c:UInt8=>p c.toNat) hp,List.length_cons,Nat.add_comm]
theorem Hi {p:Nat→Bool}{s:List UInt8}{k:Nat}(h:k<s.length)(hp:¬ p s[k].toNat=true):iJ p s k=0:=by
 unfold iJ
 rw[drop_cons h,List.takeWhile_cons_of_neg (p:=fun c:UInt8=>p c.toNat) hp]; rfl
theorem G7 {p:Nat→Bool}{s:List UInt8}{k:Nat}(h:s.length≤k):iJ p s k=0:=by
 unfold iJ
 rw[List.drop_eq_nil_of_le h]; rfl
def N8 (pm : Int → Option Bool) (s : List UInt8) : Nat → Int → Option Int
 | 0,_=>none
 | r + 1, i => if i < (List.length s : Int) then
  Option.bind (zK s i) fun c=>Option.bind (pm c) fun b=>if b=true then N8 pm s r (IntKind.wrap .i64 (i+1)) else some i
   else some i
theorem NU {pm:Int→Option Bool}{p:Nat→Bool}(hpm:∀ c:UInt8,pm (c.toNat:Int)=some (p c.toNat))(s:List UInt8)(hs:s.length≤1000000):∀(r k:Nat),k≤s.length→s.length - k<r→N8 pm s r (k:Int)=some ((k+iJ p s k:Nat):Int):=by
 intro r
 induction r with
 | zero=>intro k h1 h2; omega
 | succ r ih =>
   intro k h1 h2
   unfold N8
   by_cases hlt:k<s.length
   ·rw[if_pos (by omega),tG hlt,Option.bind_some,hpm,Option.bind_some]
    by_cases hp:p s[k].toNat=true
    ·rw[if_pos hp,w1 (by omega),ih (k+1) hlt (by omega),BM hlt hp,Nat.add_assoc]
    ·rw[if_neg hp,Hi hlt hp]; rfl
   ·rw[if_neg (by omega),G7 (by omega)]; rfl
theorem L5 (R : Nat) (s : List UInt8) (hs : s.length ≤ 1000000) (hw : ∀ c ∈ s, vV c.toNat = true) (h0 : ∀ (h : 0 < s.length), Lk s[0].toNat = true) : ∀ (r k : Nat), k ≤ s.length → s.length - k < r →
 gI R s (s.length:Int) r (k:Int)=some (.inr ()):=by
 intro r
 induction r with
 | zero=>intro k h1 h2; omega
 | succ r ih =>
   intro k h1 h2
   unfold gI
   by_cases hlt:k<s.length
   ·rw[if_pos (by omega),tG hlt,Option.bind_some,w1 (by omega),ih (k+1) hlt (by omega)]
    have hwk:=hw s[k] (List.getElem_mem hlt)
    have h0':k=0→Lk s[k].toNat=true:=by rintro rfl; exact h0 hlt
    simp only[vV,Lk,BW,Bool.or_eq_true,Bool.and_eq_true,decide_eq_true_eq,beq_iff_eq] at hwk h0'
    split
    ·split
     ·rfl
     ·omega
    ·split
     ·split
      ·rfl
      ·split
       ·rfl
       ·split <;> omega
     ·split
      ·omega
      ·split
       ·omega
       ·split
        ·omega
        ·rfl
   ·rw[if_neg (by omega)]
theorem O1 (R:Nat)(s:List UInt8)(hs:s.length≤1000000)(hR:s.length<R)(hw:∀ c ∈ s,vV c.toNat=true)(h0:∀(h:0<s.length),Lk s[0].toNat=true)(h1:0<s.length):wC R s=some (decide (s.length≤16)):=by
 unfold wC
 rw[show(0:Int)=((0:Nat):Int) from rfl,L5 R s hs hw h0 R 0 (by omega) (by omega),Option.bind_some]
 simp only
 rw[if_pos (by omega)]
 by_cases h:s.length≤16
 ·rw[if_pos (by omega),decide_eq_true h]
 ·rw[if_neg (by omega),decide_eq_false h]
def A0:List UInt8:=[57,50,50,51,51,55,50,48,51,54,56,53,52,55,55,53,56,48,55]
def GD (s:List UInt8):Bool:=!(decide (1<s.length) && s.head? == some 48) && decide (s.length≤19) && (decide (s.length<19) || (strLt s A0 || gT s A0))
theorem Qo (c:UInt8):((c.toNat:Int)=48)↔c=48:=by
 constructor
 ·intro h
  have:c.toNat=48:=by omega
  exact UInt8.toNat_inj.1 this
 ·rintro rfl; rfl
end
end Go.Proofs.YthodfojhbbendaaGreatDoor
end
section
set_option linter.all false
set_option maxRecDepth 100000
namespace Go.Proofs.YthodfojhbbendaaGreatDoor
open Go Go.Ev
noncomputable section
def bU (v:AV):Option (Int×List UInt8×Int):=match v with
 | .agg [.int .i64 a0,.str a1,.int .i64 a2]=>some (a0,a1,a2)
 | _=>none
theorem bR {v:AV}{a0:Int}{a1:List UInt8}{a2:Int}(h:bU v=some (a0,a1,a2)):v=.agg [.int .i64 a0,.str a1,.int .i64 a2]:=by
 unfold bU at h
 split at h
 ·cases h; rfl
 ·cases h
def iS (R:Nat)(a:List UInt8)(b:Int):Option (Bool):=
 if(b<(List.length a:Int)) then
  (zK a b).bind fun c=>
  (qY R c).bind fun d=>
  some d
 else
  some false
theorem nD {R:Nat}(n:Nat){c:List UInt8}{d:Int}(a:St){r:Bool}(h:iS R c d=some r):
 oE 25 vP R (n+1) 117 [1,1,0,0,0,0,0] [(0,(.str c)),(2,(.func (.func 172) [] [])),(7,(.int .i64 d))] a .normal [(19,.bool r)] a:=by
 revert h;unfold iS;refine aU (fun b=>?_) (fun b=>?_)
 ·refine aA fun e f=>aA fun g i=>?_
  intro h;obtain rfl:=b9 h;exact aK (hs:=[.run 3,.dec true,.run 4,.val (.int .u8 e),.call (.bool g) a,.run 1]) (want:=[19]) (by kernel_rfl) (aG (Bs R n e a _ i)<|aG (gE (k:=.i64) (P:=C0.P) (t:=9) (by kernel_rfl) f)<|aG (decide_eq_true b) eE)
 ·intro h;obtain rfl:=b9 h;exact aK (hs:=[.run 3,.dec false,.run 2]) (want:=[19]) (by kernel_rfl) (aG (decide_eq_false b) eE)
def fW (R : Nat) (b : List UInt8) (c : Int) : Nat → Int → Option ((Int))
 | 0,_=>none
 | r + 1, a =>
   (iS R b a).bind fun d=>
   if d=true then
    fW R b c r (IntKind.wrap .i64 (a+1))
   else
    some a
def lY (st:St)(o:(Int)):cE×List (Nat×AV)×St:=match o with
 | a0=>((.exit 0),[(7,.int .i64 a0)],st)
theorem wW (R n:Nat)(d:List UInt8)(e:Int)(a:St):∀(r:Nat) (b:Int) (o:(Int)),fW R d e r b=some o →
 jL 25 (jA (fun fr k=>cZ C0 (aW C0 vP R (n+1)) 117 R none (dA C0.P 117 [1,1,0,0,0]) fr k) r) (dI (dA C0.P 117 [1,1,0,0,0])) [(0,(.str d)),(1,(.int .i64 e)),(2,(.func (.func 172) [] [])),(7,(.int .i64 b))] a (lY a o).1 (lY a o).2.1 (lY a o).2.2:=by
 intro r
 induction r with
 | zero=>intro b o h; exact nomatch h
 | succ r ih =>
   intro b o
   unfold fW;refine aA fun g f=>?_;refine aU (fun c=>?_) (fun c=>?_)
   ·subst c;intro h;exact cS (aK (hs:=[.Ag [0,2,7] .normal [(19,(.bool true))] a,.aM,.aM,.run 3]) (want:=[0,1,2,7]) (by kernel_rfl) (.cons (nD n a f) .nil)) (ih (IntKind.wrap .i64 (b+1)) _ h)
   ·obtain rfl:=bF c;intro h;obtain rfl:=b9 h;exact bI (aK (hs:=[.Ag [0,2,7] .normal [(19,(.bool false))] a,.aM]) (want:=[7]) (by kernel_rfl) (.cons (nD n a f) .nil)) (by kernel_rfl)
def kX (R:Nat)(a:List UInt8)(b:Int)(c:Int):Option (Int):=
 (fW R a b R c).bind fun d=>
 some d
theorem xJ {R:Nat}(n:Nat){b:List UInt8}{c:Int}{d:Int}(a:St){r:Int}(h:kX R b c d=some r):
 oE 25 vP R (n+1) 117 [1,1,0] [(0,(.str b)),(1,(.int .i64 c)),(2,(.func (.func 172) [] [])),(7,(.int .i64 d))] a .normal [(7,.int .i64 r)] a:=by
 revert h;unfold kX;refine aA fun e f=>?_;intro h;obtain rfl:=b9 h;exact aK (hs:=[.aM,.abs [0,1,2,7] (.exit 0) [(7,(.int .i64 e))] a]) (want:=[7]) (by kernel_rfl) (aG (bY (wW R n b c a R d _ f)) eE)
def mF (R:Nat)(b:List UInt8)(a:Int):Option (Int):=
 (kX R b a a).bind fun c=>
 some (IntKind.wrap .i64 (c - a))
theorem BA {R:Nat}(n:Nat){b:List UInt8}{c:Int}(a:St){r:Int}(h:mF R b c=some r):
 aR (aW C0 vP R (n+2)) false 117 [(.str b),(.int .i64 c),(.func (.func 172) [] [])] a (.int .i64 r) a:=by
 revert h;unfold mF;refine aA fun d e=>?_;intro h;obtain rfl:=b9 h;exact dE (hs:=[.run 3,.nW [0,1,2,7] .normal [(7,(.int .i64 d))] a,.run 4]) (by kernel_rfl) (aG (xJ n a e) eE)
def BI (R : Nat) (s2 : List UInt8) (i3 : Int) (st4 : St) : Option (Int × List UInt8 × Int × Int × St) :=
 (mF R s2 i3).bind fun b=>
 (Bn s2 i3 (IntKind.wrap .i64 (i3+b))).bind fun h=>
 (storeAt C0.P (St.push (St.push st4 (.cells 129 true [(.int .i64 0),(.str []),(.int .i64 0)])) (.cells 129 true [(.int .i64 0),(.str []),(.int .i64 0)])) 129 (.ref (St.next (St.push st4 (.cells 129 true [(.int .i64 0),(.str []),(.int .i64 0)]))) 0) (.agg [(.int .i64 1),(.str h),(.int .i64 i3)])).bind fun a=>
 (loadAt C0.P a 9 (.ref (St.next (St.push st4 (.cells 129 true [(.int .i64 0),(.str []),(.int .i64 0)]))) 1)).bind fun i=>
 (eY i).bind fun c=>
 (xC R c).bind fun j=>
 if j=true then
  (storeAt C0.P a 3 (.ref (St.next (St.push st4 (.cells 129 true [(.int .i64 0),(.str []),(.int .i64 0)]))) 0) (.int .i64 2)).bind fun d=>
  (loadAt C0.P d 129 (.ref (St.next (St.push st4 (.cells 129 true [(.int .i64 0),(.str []),(.int .i64 0)]))) 0)).bind fun k=>
  (bU k).bind fun(l,m,n)=>
  (storeAt C0.P d 129 (.ref (St.next st4) 0) (.agg [(.int .i64 l),(.str m),(.int .i64 n)])).bind fun e=>
  (loadAt C0.P e 129 (.ref (St.next st4) 0)).bind fun o=>
  (bU o).bind fun(p,q,r)=>
  some (p,q,r,b,e)
 else
  (oZ R c).bind fun s=>
  if s=true then
   (loadAt C0.P a 129 (.ref (St.next (St.push st4 (.cells 129 true [(.int .i64 0),(.str []),(.int .i64 0)]))) 0)).bind fun t=>
   (bU t).bind fun(u,v,w)=>
   (storeAt C0.P a 129 (.ref (St.next st4) 0) (.agg [(.int .i64 u),(.str v),(.int .i64 w)])).bind fun f=>
   (loadAt C0.P f 129 (.ref (St.next st4) 0)).bind fun x=>
   (bU x).bind fun(y,z,A)=>
   some (y,z,A,b,f)
  else
   (loadAt C0.P a 129 (.ref (St.next (St.push st4 (.cells 129 true [(.int .i64 0),(.str []),(.int .i64 0)]))) 0)).bind fun B=>
   (bU B).bind fun(C,D,E)=>
   (storeAt C0.P a 129 (.ref (St.next st4) 0) (.agg [(.int .i64 C),(.str D),(.int .i64 E)])).bind fun g=>
   (loadAt C0.P g 129 (.ref (St.next st4) 0)).bind fun F=>
   (bU F).bind fun(G,H,I)=>
   some (G,H,I,0,g)
theorem H5 {R:Nat}(n:Nat){s2:List UInt8}{i3:Int}{st4:St}{r:Int×List UInt8×Int×Int×St}(h:BI R s2 i3 st4=some r):
 aR (aW C0 vP R (n+3)) false 147 [(.str s2),(.int .i64 i3)] st4 (.tuple [(.agg [.int .i64 r.1,.str r.2.1,.int .i64 r.2.2.1]),(.int .i64 r.2.2.2.1)]) r.2.2.2.2:=by
 revert h;unfold BI;refine aA fun j l=>aA fun m f=>aA fun a g=>aA fun a4 c=>aA fun b p=>?_
 obtain rfl:=cC p;refine aA fun a5 i=>?_;have q9001:=aG (BA n (St.push st4 (.cells 129 true qU)) l) eE
 let q8001:List Hint:=[.run 4,.call (.int .i64 j) (St.push st4 (.cells 129 true qU)),.run 6,.val (.str m),.run 3,.cA AV.undef a,.aM,.run 1,.val (.str b)]
 refine aU (fun d=>?_) (fun d=>?_)
 ·subst d;refine aA fun q s=>aA fun a6 u=>aA fun o v=>?_
  obtain⟨w,x,y⟩:=o;obtain rfl:=bR v;refine aA fun z A=>aA fun a7 DM=>aA fun o B=>?_
  obtain⟨C,D,E⟩:=o;obtain rfl:=bR B;intro h;obtain rfl:=b9 h;exact dE (hs:=q8001 ++ [.call (.bool true) a,.run 1,.aM,.run 1,.cA AV.undef q,.val (nU w x y),.run 1,.cA AV.undef z,.run 1,.val (nU C D E)]) (by kernel_rfl) (aG DM<|aG (aN A)<|aG u<|aG (aN s)<|aG (zG R (n+1) b a _ i)<|aG c<|aG (aN g)<|aG (GI (k:=.i64) (k':=.i64) (P:=C0.P) (t:=9) (by kernel_rfl) f) q9001)
 ·obtain rfl:=bF d;refine aA fun a8 F=>?_;have q9002:=aG (BP R (n+1) b a _ F)<|aG c<|aG (zG R (n+1) b a _ i)<|aG c<|aG (aN g)<|aG (GI (k:=.i64) (k':=.i64) (P:=C0.P) (t:=9) (by kernel_rfl) f) q9001
  let q8002:List Hint:=q8001 ++ [.call (.bool false) a,.run 1,.aM,.run 1,.val (.str b)]
  refine aU (fun e=>?_) (fun e=>?_)
  ·subst e;refine aA fun a9 G=>aA fun o H=>?_
   obtain⟨I,J,K⟩:=o;obtain rfl:=bR H;refine aA fun L M=>aA fun b0 N=>aA fun o O=>?_
   obtain⟨Q,S,T⟩:=o;obtain rfl:=bR O;intro h;obtain rfl:=b9 h;exact dE (hs:=q8002 ++ [.call (.bool true) a,.run 2,.aM,.val (nU I J K),.run 1,.cA AV.undef L,.run 1,.val (nU Q S T)]) (by kernel_rfl) (aG N<|aG (aN M)<|aG G q9002)
  ·obtain rfl:=bF e;refine aA fun b1 U=>aA fun o DI=>?_
   obtain⟨V,W,X⟩:=o;obtain rfl:=bR DI;refine aA fun Y Hy=>aA fun b2 Z=>aA fun o a0=>?_
   obtain⟨a1,a2,a3⟩:=o;obtain rfl:=bR a0;intro h;obtain rfl:=b9 h;exact dE (hs:=q8002 ++ [.call (.bool false) a,.run 2,.aM,.val (nU V W X),.cA AV.undef Y,.run 1,.val (nU a1 a2 a3)]) (by kernel_rfl) (aG Z<|aG (aN Hy)<|aG U q9002)
def qV (R:Nat)(a0:List UInt8)(a1:Int):Option (Int×List UInt8×Int×Int):=(BI 2000000 a0 a1 St.empty).map fun r=>(r.1,r.2.1,r.2.2.1,r.2.2.2.1)
def vN (args:List AV):Option AV:=match args with
 | [.str a0,.int .i64 a1]=>(qV 0 a0 a1).map fun r=>(.tuple [(.agg [.int .i64 r.1,.str r.2.1,.int .i64 r.2.2.1]),(.int .i64 r.2.2.2)])
 | _=>none
theorem H7:nX C0 vP (147,vN):=by
 intro args v h0
 have h:vN args=some v:=h0
 unfold vN at h
 split at h
 ·obtain⟨q0,h2,rfl⟩:=Option.map_eq_some_iff.1 h
  obtain⟨q,h1,rfl⟩:=Option.map_eq_some_iff.1 h2
  exact⟨rfl,rfl,2000000,0+3,_,H5 0 h1⟩
 ·cases h
def HS:List (Nat×(List AV→Option AV)):=[(147,vN)]
def qG:Ext:=yE (tN HS) vP
theorem KC:oP C0.P qG:=FY FW KX I7 KX (by kernel_rfl) (.cons H7<|.nil)
theorem CH (R:Nat)(a0:List UInt8)(a1:Int)(r:Int×List UInt8×Int×Int)(h:qV R a0 a1=some r):qG 147 [.str a0,.int .i64 a1]=some (.tuple [(.agg [.int .i64 r.1,.str r.2.1,.int .i64 r.2.2.1]),(.int .i64 r.2.2.2)]):=
 mT ((by kernel_rfl:tN HS 147 [.str a0,.int .i64 a1]=(qV R a0 a1).map fun r=>(.tuple [(.agg [.int .i64 r.1,.str r.2.1,.int .i64 r.2.2.1]),(.int .i64 r.2.2.2)])).trans (by rw[h]; rfl))
theorem Bg (R n:Nat)(a0:List UInt8)(a1:Int)(st:St)(r:Int×List UInt8×Int×Int)(h:qV R a0 a1=some r):aR (aW C0 qG R (n+1)) false 147 [.str a0,.int .i64 a1] st (.tuple [(.agg [.int .i64 r.1,.str r.2.1,.int .i64 r.2.2.1]),(.int .i64 r.2.2.2)]) st:=kQ (CH R a0 a1 r h) st
theorem Bx (R:Nat)(a0:List UInt8)(r:List UInt8×Int)(h:mH R a0=some r):qG 144 [.str a0]=some (.tuple [(.str r.1),(.int .i64 r.2)]):=
 (by kernel_rfl:qG 144 [.str a0]=vP 144 [.str a0]).trans (Br R a0 r h)
theorem pZ (R n:Nat)(a0:List UInt8)(st:St)(r:List UInt8×Int)(h:mH R a0=some r):aR (aW C0 qG R (n+1)) false 144 [.str a0] st (.tuple [(.str r.1),(.int .i64 r.2)]) st:=kQ (Bx R a0 r h) st
theorem Ds (R:Nat)(a0:List UInt8)(r:List UInt8×Bool)(h:qE R a0=some r):qG 145 [.str a0]=some (.tuple [(.str r.1),(.bool r.2)]):=
 (by kernel_rfl:qG 145 [.str a0]=vP 145 [.str a0]).trans (Du R a0 r h)
theorem zF (R n:Nat)(a0:List UInt8)(st:St)(r:List UInt8×Bool)(h:qE R a0=some r):aR (aW C0 qG R (n+1)) false 145 [.str a0] st (.tuple [(.str r.1),(.bool r.2)]) st:=kQ (Ds R a0 r h) st
theorem Bf (R:Nat)(a0:Int)(r:Bool)(h:p6 R a0=some r):qG 146 [.int .u8 a0]=some (.bool r):=
 (by kernel_rfl:qG 146 [.int .u8 a0]=vP 146 [.int .u8 a0]).trans (By R a0 r h)
theorem BR (R n:Nat)(a0:Int)(st:St)(r:Bool)(h:p6 R a0=some r):aR (aW C0 qG R (n+1)) false 146 [.int .u8 a0] st (.bool r) st:=kQ (Bf R a0 r h) st
theorem Cu (R:Nat)(a0:Int)(r:Bool)(h:nN R a0=some r):qG 148 [.int .u8 a0]=some (.bool r):=
 (by kernel_rfl:qG 148 [.int .u8 a0]=vP 148 [.int .u8 a0]).trans (Cd R a0 r h)
theorem wG (R n:Nat)(a0:Int)(st:St)(r:Bool)(h:nN R a0=some r):aR (aW C0 qG R (n+1)) false 148 [.int .u8 a0] st (.bool r) st:=kQ (Cu R a0 r h) st
theorem Cr (R:Nat)(a0:Int)(r:Bool)(h:nR R a0=some r):qG 118 [.int .u8 a0]=some (.bool r):=
 (by kernel_rfl:qG 118 [.int .u8 a0]=vP 118 [.int .u8 a0]).trans (Cm R a0 r h)
end
end Go.Proofs.YthodfojhbbendaaGreatDoor
end
