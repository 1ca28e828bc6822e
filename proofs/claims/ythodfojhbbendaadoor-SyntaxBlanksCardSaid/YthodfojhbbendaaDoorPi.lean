/- SyntaxBlanks, part 9 of 10 of its proof (what is proved: whatever the text is, the law answers true; conditions: those each theorem states). Joined and shortened by a program. In order: SynN | SxI | SxJ | SxM | SxW | SynL | SxO | SynO | SynP | SynQ | SynR | SynU | SynV -/
import Derived.Test.YthodfojhbbendaaDoorPh
import Derived.Lib.ItoaLen
import Derived.Test.YthodfojhbbendaaDoorPg
import Derived.Test.YthodfojhbbendaaDoorPe
import Derived.Lib.ParseIntBTie
section
set_option linter.all false
set_option maxRecDepth 100000
set_option maxHeartbeats 4000000
namespace Go.Proofs.YthodfojhbbendaaDoor
open Go Go.Ev
noncomputable section
attribute [local congr] rL zU
instance t2:pI C0.P 2 false 1:=⟨by kernel_rfl,by kernel_rfl⟩
instance t44:pI C0.P 44 false 1:=⟨by kernel_rfl,by kernel_rfl⟩
instance t46:pI C0.P 46 true 2:=⟨by kernel_rfl,by kernel_rfl⟩
instance QL:yU C0.P 44 2:=⟨⟨46,40,.agg [.str [],.aB],by kernel_rfl,by kernel_rfl,by kernel_rfl,by kernel_rfl,by omega,by omega,by kernel_rfl,by kernel_rfl⟩⟩
def KN (st st':St):Prop:=st.next≤st'.next∧(∀ i,i<st.next→st'.aS.get i=st.aS.get i)∧st'.old=st.old
theorem KN.refl {st:St}:KN st st:=⟨Nat.le_refl _,fun _ _=>rfl,rfl⟩
theorem KN.trans {a b c:St}(h:KN a b)(k:KN b c):KN a c:=⟨Nat.le_trans h.1 k.1,fun i hi=>(k.2.1 i (Nat.lt_of_lt_of_le hi h.1)).trans (h.2.1 i hi),k.2.2.trans h.2.2⟩
theorem KN.eI {st s:St}{o:hZ}(h:KN st s):KN st (s.push o):=⟨Nat.le_succ_of_le h.1,fun i hi=>(Ol (by have:=h.1; omega)).trans (h.2.1 i hi),h.2.2⟩
theorem KN.loc {st s:St}{id:Nat}{o:hZ}(h:KN st s)(hi:st.next≤id):KN st (s.put id o):=⟨h.1,fun i h1=>(Me (by omega)).trans (h.2.1 i h1),h.2.2⟩
theorem KN.le {st s:St}(h:KN st s):st.next≤s.next:=h.1
theorem KN.kp {p q:Nat}{st s:St}(h:KN st s):KP p q st s:=⟨h.1,fun i h1 _ _=>h.2.1 i h1,h.2.2⟩
theorem Sl.kn {sz:Nat}{st st1:St}{x:AV}{cells:List AV}(h:Sl st sz x cells)(k:KN st st1):Sl st1 sz x cells:=h.keeps (p:=fun _=>False) ⟨k.1,fun i hi _=>k.2.1 i hi⟩ (fun _ _ h=>h)
theorem KN.keeps {st0 st st1:St}{x:AV}(h:KN st0 st)(k:oV st st1 (dO x))(ho:st1.old=st.old)(hf:∀ id,dO x id→st0.next≤id):KN st0 st1:=
 ⟨Nat.le_trans h.1 k.1,fun i h1=>(k.2 i (Nat.lt_of_lt_of_le h1 h.1) (fun e=>absurd (hf i e) (by omega))).trans (h.2.1 i h1),ho.trans h.2.2⟩
theorem NR {t:TypeId}{sz:Nat}[yU C0.P t sz]{st0 st:St}{x v:AV}{cells:List AV}{β:Type}{φ:β→Prop}{k:AV×St→Option β}
 (hK:KN st0 st) (h:Sl st sz x cells) (hf:∀ id,dO x id→st0.next≤id) (hl:v.cells.length=sz) (h1:v.cells.all AV.one=true) (hn:cells.length≤iT) (hs:sz≤16777216)
 (hk:∀ x' st1,KN st0 st1→Sl st1 sz x' (cells ++ v.cells)→(∀ id,dO x' id→st0.next≤id)→(∀ i,i<st.next→ ¬ dO x i→st1.aS.get i=st.aS.get i)→st.next≤st1.next→T φ (k (x',st1))):
 T φ (Option.bind (eK (aU C0.P false t 1 [(0,v)]) st) fun o=>match o with | (x1,st1)=>Option.bind (bW C0.P false st1 #[t,t] x x1) k):=by
 obtain⟨x',st1,e,hS,hKe,hF,hO⟩:=Lr (P:=C0.P) (t:=t) k h hl h1 hn hs
 have:=hk x' st1 (hK.keeps hKe hO hf) hS (fun id hi=>(hF id hi).elim (hf id) (fun h=>Nat.le_trans hK.1 h)) hKe.2 hKe.1
 exact e ▸ this
theorem Lc (st:St):eK (aU C0.P false 44 0 []) st=.some (.sl st.next 0 0 2 (.some 0) [],st.push (.oE 0)):=by kernel_rfl
inductive nI where
 | mk (s:List UInt8) (kids:List nI)
def nI.s:nI→List UInt8 | .mk s _=>s
def nI.kids:nI→List nI | .mk _ l=>l
inductive RT:nI→List AV→Prop
 | mk {s:List UInt8} {kids:List nI} {kv:AV} {kcs:List AV} (h1:Row 2 kv kcs) (h3:kcs.length=kids.length * 2)
  (h4:∀(j:Nat) (h:j<kids.length),RT kids[j] ((kcs.drop (j * 2)).take 2)):RT (.mk s kids) [.str s,kv]
def sX (t:nI)(kv:AV):Prop:=RT t [.str t.s,kv]
theorem sX.one {t:nI}{kv:AV}(h:sX t kv):kv.one=true:=by
 unfold sX at h
 cases h with
 | mk h1 h3 h4=>exact Row.one h1
def IX (l:List nI)(kcs:List AV):Prop:=kcs.length=l.length * 2∧ ∀(j:Nat) (h:j<l.length),RT l[j] ((kcs.drop (j * 2)).take 2)
theorem IX.nil:IX [] []:=⟨rfl,fun j h=>absurd h (Nat.not_lt_zero _)⟩
theorem IX.snoc {l:List nI}{kcs:List AV}{e:nI}{c:List AV}(h:IX l kcs)(he:RT e c)(hc:c.length=2):IX (l ++ [e]) (kcs ++ c):=by
 refine⟨by simp[h.1,hc]; omega,fun j hj=>?_⟩
 rw[List.length_append,List.length_singleton] at hj
 by_cases h1:j<l.length
 ·rw[List.getElem_append_left h1,List.drop_append_of_le_length (by rw[h.1]; omega),List.take_append_of_le_length (by rw[List.length_drop,h.1]; omega)]
  exact h.2 j h1
 ·have e1:j=l.length:=by omega
  subst e1
  rw[List.getElem_append_right (Nat.le_refl _),List.drop_append,List.drop_eq_nil_of_le (by rw[h.1]; omega)]
  simp only[Nat.sub_self,List.getElem_cons_zero,List.nil_append]
  rw[h.1,Nat.sub_self,List.drop_zero,List.take_of_length_le (by omega)]
  exact he
theorem sX.mk {s:List UInt8}{l:List nI}{kcs:List AV}{kv:AV}(h:IX l kcs)(h2:Row 2 kv kcs):sX (.mk s l) kv:=RT.mk h2 h.1 h.2
theorem sX.leaf (s:List UInt8):sX (.mk s []) .aB:=sX.mk IX.nil Row.nil
theorem sX.un {s:List UInt8}{t:nI}{kv:AV}{id:Nat}(h:sX t kv):sX (.mk s [t]) (.sl id 2 1 2 (.some 1) [.str t.s,kv]):=sX.mk (IX.nil.snoc h rfl) (.inr ⟨_,_,_,_,rfl,rfl⟩)
theorem u7 {t:nI}{kv:AV}(h:sX t kv):[AV.str t.s,kv].all AV.one=true:=by
 simp only[List.all_cons,List.all_nil,LG,h.one,Bool.and_self]
mutual
def Nb:nI→List UInt8
 | .mk s kids=>([40] ++ s) ++ DI kids ++ [41]
def DI:List nI→List UInt8
 | []=>[]
 | t :: l=>([32] ++ Nb t) ++ DI l
end
mutual
def Bj:nI→Nat
 | .mk s kids=>10+s.length+kT kids
def kT:List nI→Nat
 | []=>0
 | t :: l=>Bj t+kT l
end
mutual
def Cl:nI→Nat
 | .mk _ kids=>lU kids+1
def lU:List nI→Nat
 | []=>0
 | t :: l=>max (Cl t) (lU l)
end
mutual
def Ex.dp:Ex→Nat
 | .mk _ _ _ kids _=>FA kids+1
def FA:List Ex→Nat
 | []=>0
 | e :: l=>max e.dp (FA l)
end
def Cc:List (List UInt8)→Nat
 | []=>0
 | n :: l=>n.length+20+Cc l
mutual
def Ex.wt:Ex→Nat
 | .mk _ s v kids names=>100+s.length+v.s.length+F8 kids+Cc names
def F8:List Ex→Nat
 | []=>0
 | e :: l=>e.wt+F8 l
end
def BR (v:Vl):nI:=
 if v.k=0 then .mk [78,85,76,76] [] else if v.k=1 then if v.b=true then .mk [84,82,85,69] [] else .mk [70,65,76,83,69] []
 else if v.k=2 then .mk ([78,85,77,32] ++ Go.Lib.itoa v.n) [] else if v.k=3 then .mk ([83,84,82,32] ++ v.s) [] else .mk ([72,69,88,32] ++ v.s) []
def vM (k:Int)(s:List UInt8):List UInt8:=
 if k=3 then [78,69,71] else if k=4 then [78,79,84] else if k=5 then [73,83,78,85,76,76] else if k=6 then s else if k=7 then [76,73,83,84] else [83,84,82,85,67,84]
mutual
def tE:Ex→nI
 | .mk k s v kids names=>if k=1 then BR v else if k=2 then .mk ([70,73,69,76,68,32] ++ s) [] else .mk (vM k s) (GS (decide (k=8)) kids names)
def GS:Bool→List Ex→List (List UInt8)→List nI
 | _,[],_=>[]
 | b,e :: l,[]=>tE e :: GS b l []
 | b,e :: l,n :: ns=>(if b=true then .mk ([65,83,32] ++ n) [tE e] else tE e) :: GS b l ns
end
theorem B8 {R:Nat}{s:List UInt8}{kv:AV}{st:St}{φ:List UInt8×AV×St→Prop}(ho:kv.one=true)(h:∀ st1,KN st st1→st1.next=st.next+1→φ (s,kv,st1)):T φ (aV R s kv st):=by
 unfold aV
 refine T.step (N5 ho) ?_
 repeat(refine T.step (by simp(disch:=(first | ((repeat(first | rw[aC] | rw[aE] | rw[List.length_cons] | rw[List.length_nil])) <;> omega) | (refine(?_:_∧True).1; constructor; simp only[aM, *]; exact True.intro))) only[bB]; try exact rfl) ?_)
 exact T.some (h _ (KN.refl.eI.loc (Nat.le_refl _)) rfl)
theorem Pn {a:Int}{b:Bool}{c:Int}{d:List UInt8}{st:St}:qP 29 (.agg [.int .i64 a,.bool b,.int .i64 c,.str d,.aB,.aB]) st=.some (.ref st.next 0,st.push (.cells 29 true [.int .i64 a,.bool b,.int .i64 c,.str d,.aB,.aB])):=rfl
def Vl.ok (v:Vl):Prop:=v.k=2→ -9223372036854775808≤v.n∧v.n≤9223372036854775807
theorem Nr {R:Nat}{n:Int}{st:St}(h:Old st)(h1:-9223372036854775808≤n)(h2:n≤9223372036854775807):Om R n 10 st=.some (Go.Lib.itoa n,st):=by
 unfold Om N8
 rw[if_pos rfl,h.Pq,iE (by simp[h1,h2])]; rfl
theorem OM {R : Nat} {v : Vl} {st : St} {φ : List UInt8 × AV × St → Prop} (hO : Old st) (hv : v.ok) (hl : v.s.length ≤ 1000000000)
 (h:∀ kv st1,sX (BR v) kv→KN st st1→φ ((BR v).s,kv,st1)):T φ (j7 R v.k v.b v.n v.s .aB .aB st):=by
 have hfin:∀{s:List UInt8} {s1:St},s1=(st.push (.cells 29 true [.int .i64 v.k,.bool v.b,.int .i64 v.n,.str v.s,.aB,.aB])).push (.cells 46 true [.str [],.aB])→BR v=.mk s [] →
  T φ (Option.bind (aV R s AV.aB s1) fun o=>match o with | (s4095,x4096,st4098)=>Option.bind (storeAt C0.P st4098 46 (.ref (st.push (.cells 29 true [.int .i64 v.k,.bool v.b,.int .i64 v.n,.str v.s,.aB,.aB])).next 0) (.agg [(.str s4095),x4096])) fun st4100=>Option.bind (loadAt C0.P st4100 46 (.ref (st.push (.cells 29 true [.int .i64 v.k,.bool v.b,.int .i64 v.n,.str v.s,.aB,.aB])).next 0)) fun x4102=>Option.bind (dF x4102) fun o=>match o with | (s4103,x4104)=>.some (s4103,x4104,st4100)):=by
  rintro s s1 rfl e
  rw[e] at h
  refine T.bind (B8 rfl fun st1 k hn=>?_)
  have n_k:=k.le; (try simp only[aC,aE] at n_k)
  repeat(refine T.step (by simp(disch:=(first | ((repeat(first | rw[aC] | rw[aE] | rw[List.length_cons] | rw[List.length_nil])) <;> omega) | (refine(?_:_∧True).1; constructor; simp only[aM, *]; exact True.intro))) only[bB,k.2.1]; try exact rfl) ?_)
  exact T.some (h _ _ (sX.leaf _) (by repeat' (first | exact KN.trans (by repeat' (first | exact KN.refl | exact KN.refl | refine KN.eI ?_ | refine KN.loc ?_ ?_ | ((try simp only[aC,aE]) <;> omega))) k | refine KN.eI ?_ | refine KN.loc ?_ ?_ | ((try simp only[aC,aE]) <;> omega))))
 unfold j7
 refine T.step Pn ?_
 repeat(refine T.step (by simp(disch:=(first | ((repeat(first | rw[aC] | rw[aE] | rw[List.length_cons] | rw[List.length_nil])) <;> omega) | (refine(?_:_∧True).1; constructor; simp only[aM, *]; exact True.intro))) only[bB]; try exact rfl) ?_)
 by_cases h0:v.k=0
 ·refine T.jC h0 ?_
  exact hfin rfl (by unfold BR; rw[if_pos h0])
 ·refine T.lG h0 ?_
  by_cases h1:v.k=1
  ·refine T.jC h1 ?_
   repeat(refine T.step (by simp(disch:=(first | ((repeat(first | rw[aC] | rw[aE] | rw[List.length_cons] | rw[List.length_nil])) <;> omega) | (refine(?_:_∧True).1; constructor; simp only[aM, *]; exact True.intro))) only[bB]; try exact rfl) ?_)
   by_cases hb:v.b=true
   ·refine T.jC hb ?_
    exact hfin rfl (by unfold BR; rw[if_neg h0,if_pos h1,if_pos hb])
   ·refine T.lG hb ?_
    exact hfin rfl (by unfold BR; rw[if_neg h0,if_pos h1,if_neg hb])
  ·refine T.lG h1 ?_
   by_cases h2:v.k=2
   ·refine T.jC h2 ?_
    obtain⟨n1,n2⟩:=hv h2
    repeat(refine T.step (by simp(disch:=(first | ((repeat(first | rw[aC] | rw[aE] | rw[List.length_cons] | rw[List.length_nil])) <;> omega) | (refine(?_:_∧True).1; constructor; simp only[aM, *]; exact True.intro))) only[bB]; try exact rfl) ?_)
    unfold nY
    refine T.bind (T.step (Nr (hO.eq rfl) n1 n2) (T.some ?_))
    refine T.step (iB (by have:=Go.Lib.itoa_length_le _ n1 n2; simp only[List.length_cons,List.length_nil]; omega)) ?_
    exact hfin rfl (by unfold BR; rw[if_neg h0,if_neg h1,if_pos h2])
   ·refine T.lG h2 ?_
    by_cases h3:v.k=3
    ·refine T.jC h3 ?_
     repeat(refine T.step (by simp(disch:=(first | ((repeat(first | rw[aC] | rw[aE] | rw[List.length_cons] | rw[List.length_nil])) <;> omega) | (refine(?_:_∧True).1; constructor; simp only[aM, *]; exact True.intro))) only[bB]; try exact rfl) ?_)
     refine T.step (iB (by simp only[List.length_cons,List.length_nil]; omega)) ?_
     exact hfin rfl (by unfold BR; rw[if_neg h0,if_neg h1,if_neg h2,if_pos h3])
    ·refine T.lG h3 ?_
     repeat(refine T.step (by simp(disch:=(first | ((repeat(first | rw[aC] | rw[aE] | rw[List.length_cons] | rw[List.length_nil])) <;> omega) | (refine(?_:_∧True).1; constructor; simp only[aM, *]; exact True.intro))) only[bB]; try exact rfl) ?_)
     refine T.step (iB (by simp only[List.length_cons,List.length_nil]; omega)) ?_
     exact hfin rfl (by unfold BR; rw[if_neg h0,if_neg h1,if_neg h2,if_neg h3])
end
end Go.Proofs.YthodfojhbbendaaDoor
end
section
set_option linter.all false
set_option maxRecDepth 100000
namespace Go.Proofs.YthodfojhbbendaaDoor
open Go Go.Ev
noncomputable section
theorem NA (R:Nat)(c:UInt8):oM R (c.toNat:Int)=some (Jf c.toNat):=Kt 2000000 c
theorem MA (R:Nat)(c:UInt8):nC R (c.toNat:Int)=some (wW c.toNat):=L3 2000000 c
theorem OR (R:Nat)(c:UInt8):nD R (c.toNat:Int)=some (oS c.toNat):=MI 2000000 c
theorem O0 (R:Nat)(c:UInt8):pV R (c.toNat:Int)=some (p7 c.toNat):=LX 2000000 c
theorem Pa (R:Nat)(s:List UInt8):uY R s=some (isKey s):=by
 obtain⟨st',h⟩:=OG 2000000 s St.empty (by omega)
 unfold uY
 rw[h]; rfl
theorem Ji (R:Nat)(s:List UInt8)(hs:s.length≤1000000)(h1:1≤s.length):mF R s=some (match jU (s.drop 1) with
 | some (t,n)=>(t,((1+n:Nat):Int))
 | none=>([],0)):=by
 obtain⟨st',h⟩:=Kl 2000000 s St.empty hs h1 (by omega)
 unfold mF
 rw[h]
 cases jU (List.drop 1 s) <;> rfl
theorem FU (R:Nat)(s t:List UInt8)(hs:s.length≤1000000)(h:unhex s=some t):pO R s=some (t,true):=by
 obtain⟨st',h1,_⟩:=L6 2000000 s St.empty hs (by omega)
 unfold pO
 rw[h1 t h]; rfl
theorem KY (R:Nat)(s:List UInt8)(hs:s.length≤1000000)(h:unhex s=none):∃ t,pO R s=some (t,false):=by
 obtain⟨st',_,h1⟩:=L6 2000000 s St.empty hs (by omega)
 obtain⟨t,h2⟩:=h1 h
 unfold pO
 rw[h2]
 exact⟨t,rfl⟩
theorem P4 (R:Nat)(s:List UInt8)(hs:s.length≤1000000)(hw:∀ c ∈ s,p7 c.toNat=true)(h0:∀(h:0<s.length),Jf s[0].toNat=true)(h1:0<s.length):oI R s=some (decide (s.length≤16)):=Mn 2000000 s hs (by omega) hw h0 h1
theorem rS : ∀ (l : List UInt8) (t : List UInt8) (n : Nat), jU l = some (t, n) → t.length < n ∧ n ≤ l.length
 | [],t,n,h=>by cases h
 | [c], t, n, h => by
   by_cases hc:c=39
   ·simp[jU,hc] at h
    obtain⟨rfl,rfl⟩:=h
    simp
   ·rw[xZ _ hc] at h
    simp[jU] at h
 | c :: d :: r, t, n, h => by
   by_cases hc:c=39
   ·by_cases hd:d=39
    ·simp only[jU,hc,hd,if_true] at h
     obtain⟨⟨u,m⟩,h1,h2⟩:=Option.map_eq_some_iff.1 h
     cases h2
     have:=rS r u m h1
     simp; omega
    ·simp[jU,hc,hd] at h
     obtain⟨rfl,rfl⟩:=h
     simp
   ·rw[xZ _ hc] at h
    obtain⟨⟨u,m⟩,h1,h2⟩:=Option.map_eq_some_iff.1 h
    cases h2
    have:=rS (d :: r) u m h1
    simp at this ⊢; omega
def runK (pm:Int→Option Bool)(s:List UInt8):Nat→Int→Option Int
 | 0,_=>none
 | r+1,i=>Option.bind (if i<(List.length s:Int) then Option.bind (Al s i) fun c=>Option.bind (pm c) fun b=>some b else some false) fun b=>if b=true then runK pm s r (IntKind.wrap .i64 (i+1)) else some i
theorem JS {pm:Int→Option Bool}{p:Nat→Bool}(hpm:∀ c:UInt8,pm (c.toNat:Int)=some (p c.toNat))(s:List UInt8)(hs:s.length≤1000000):∀(r k:Nat),k≤s.length→s.length - k<r→runK pm s r (k:Int)=some ((k+eU p s k:Nat):Int):=by
 intro r
 induction r with
 | zero=>intro k h1 h2; omega
 | succ r ih =>
   intro k h1 h2
   unfold runK
   by_cases hlt:k<s.length
   ·rw[if_pos (by omega),tY hlt,Option.bind_some,hpm,Option.bind_some,Option.bind_some]
    by_cases hp:p s[k].toNat=true
    ·rw[if_pos hp,w1 (by omega),ih (k+1) hlt (by omega),Ab hlt hp,Nat.add_assoc]
    ·rw[if_neg hp,HU hlt hp]; rfl
   ·rw[if_neg (by omega),Option.bind_some,if_neg (by simp),Fw (by omega)]; rfl
theorem D5 (R:Nat)(s:List UInt8)(i0:Int):∀ r i,gH R s i0 r i=runK (pV R) s r i
 | 0,_=>rfl
 | r+1,i=>by unfold gH runK iV; simp only[D5 R s i0 r]
theorem DC (R:Nat)(s:List UInt8)(i0:Int):∀ r i,gF R s i0 r i=runK (nC R) s r i
 | 0,_=>rfl
 | r+1,i=>by unfold gF runK iY; simp only[DC R s i0 r]
theorem Ks (R:Nat)(s:List UInt8)(k:Nat)(hs:s.length≤1000000)(hk:k≤s.length)(hR:s.length<R):mI R s (k:Int)=some ((eU p7 s k:Nat):Int):=by
 have:=mE p7 s k hk
 unfold mI kV
 rw[D5,JS (O0 R) s hs R k hk (by omega),Option.bind_some,Option.bind_some,wrap64 (by omega) (by omega)]
 congr 1; omega
theorem KM (R:Nat)(s:List UInt8)(k:Nat)(hs:s.length≤1000000)(hk:k≤s.length)(hR:s.length<R):mC R s (k:Int)=some ((eU wW s k:Nat):Int):=by
 have:=mE wW s k hk
 unfold mC kU
 rw[DC,JS (MA R) s hs R k hk (by omega),Option.bind_some,Option.bind_some,wrap64 (by omega) (by omega)]
 congr 1; omega
theorem mG {P:Program}{T:TypeId}[pI P T true 3]{st:St}{id t:Nat}{u:Bool}{a b c:AV}(h:st.aS.get id=some (.cells t u [a,b,c]))(x:Int)(y:List UInt8)(z r:Int):
 ∃ st',((storeAt P st T (.ref id 0) (.agg [.int .i64 x,.str y,.int .i64 z])).bind fun s1=>(loadAt P s1 T (.ref id 0)).bind fun v=>(cD v).bind fun q=>some (q.1,q.2.1,q.2.2,r,s1))=some (x,y,z,r,st'):=by
 refine⟨st.put id (.cells t u [.int .i64 x,.str y,.int .i64 z]),?_⟩
 rw[A0 (new:=[.int .i64 x,.str y,.int .i64 z]) h rfl rfl rfl,Option.bind_some,v8 (wG _ _ _) rfl]
 rfl
theorem MQ (st:St)(t:Nat)(cs:List AV):(st.push (.cells t true cs)).aS.get st.next=some (.cells t true cs):=xR st _
def eX (p:Nat→Bool)(s:List UInt8)(k:Nat):List UInt8:=(s.drop k).takeWhile fun c=>p c.toNat
theorem Ae (p:Nat→Bool)(s:List UInt8)(k:Nat):(eX p s k).length=eU p s k:=rfl
theorem Fa {p:Nat→Bool}{s:List UInt8}{k:Nat}(hk:k≤s.length):(s.take (k+eU p s k)).drop k=eX p s k:=by
 rw[List.drop_take,Nat.add_sub_cancel_left]
 unfold eU eX
 generalize s.drop k=l
 have:=List.takeWhile_append_dropWhile (p:=fun c:UInt8=>p c.toNat) (l:=l)
 conv=>lhs; rw[← this]
 rw[List.take_left']
 simp
theorem xA {α:Type}{p:α→Bool}:∀{l:List α} {c:α},c ∈ l.takeWhile p→p c=true
 | a :: l, c, h => by
   rw[List.takeWhile_cons] at h
   split at h
   ·rcases List.mem_cons.1 h with rfl | h
    ·assumption
    ·exact xA h
   ·cases h
theorem Fm {p:Nat→Bool}{s:List UInt8}{k:Nat}:∀ c ∈ eX p s k,p c.toNat=true:=fun c hc=>xA (p:=fun c:UInt8=>p c.toNat) hc
theorem BF {p:Nat→Bool}{s:List UInt8}{k:Nat}(h:k<s.length)(hp:p s[k].toNat=true):∃ r,eX p s k=s[k] :: r:=by
 unfold eX
 rw[drop_cons h,List.takeWhile_cons_of_pos (p:=fun c:UInt8=>p c.toNat) hp]
 exact⟨_,rfl⟩
theorem LW (s:List UInt8)(k:Nat)(hs:s.length≤1000000)(hk:k<s.length)(hl:Jf s[k].toNat=true)(R:Nat):
 q8 R s (k:Int)=some (if isKey (eX p7 s k) then(2,eX p7 s k,(k:Int),((eU p7 s k:Nat):Int)) else(1,eX p7 s k,(k:Int),if eU p7 s k≤16 then((eU p7 s k:Nat):Int) else 0)):=by
 have hW:p7 s[k].toNat=true:=by simp[p7,hl]
 have hle:=mE p7 s k (by omega)
 obtain⟨r,hr⟩:=BF hk hW
 have hn:oI 2000000 (eX p7 s k)=some (decide ((eX p7 s k).length≤16)):=P4 _ _ (by rw[Ae]; omega) Fm (by rw[hr]; intro _; exact hl) (by rw[hr]; simp)
 rw[Ae] at hn
 unfold q8 Ac
 rw[Ks 2000000 s k hs (by omega) (by omega),Option.bind_some,wN (by omega),xP (by omega) (by omega),Fa (by omega),Option.bind_some]
 rw[A0 (cs:=[.int .i64 0,.str [],.int .i64 0]) (new:=[.int .i64 1,.str (eX p7 s k),.int .i64 (k:Int)]) (MQ _ _ _) rfl rfl rfl,Option.bind_some,KJ (off:=1) (wG _ _ _) rfl,Option.bind_some]
 simp only[iZ,Option.bind_some]
 rw[Pa,Option.bind_some]
 by_cases hkey:isKey (eX p7 s k)=true
 ·rw[if_pos hkey,if_pos hkey]
  rw[JE (off:=0) (wG _ _ _) (by simp) rfl rfl,Option.bind_some,v8 (wG _ _ _) rfl,Option.bind_some]
  have e0:((((St.empty.push (.cells 26 true [.int .i64 0,.str [],.int .i64 0])).push (.cells 26 true [.int .i64 0,.str [],.int .i64 0])).put (St.empty.push (.cells 26 true [.int .i64 0,.str [],.int .i64 0])).next (.cells 26 true [.int .i64 1,.str (eX p7 s k),.int .i64 (k:Int)])).put (St.empty.push (.cells 26 true [.int .i64 0,.str [],.int .i64 0])).next (.cells 26 true (List.set [.int .i64 1,.str (eX p7 s k),.int .i64 (k:Int)] 0 (.int .i64 2)))).aS.get St.empty.next=some (.cells 26 true [.int .i64 0,.str [],.int .i64 0]):=by
   rw[yQ _ (by decide),yQ _ (by decide),wJ _ (by decide),xR]
  obtain⟨st',h⟩:=mG (P:=C0.P) (T:=26) e0 2 (eX p7 s k) (k:Int) ((eU p7 s k:Nat):Int)
  exact congrArg (Option.map _) h
 ·rw[if_neg hkey,if_neg hkey,hn,Option.bind_some]
  have e0:(((St.empty.push (.cells 26 true [.int .i64 0,.str [],.int .i64 0])).push (.cells 26 true [.int .i64 0,.str [],.int .i64 0])).put (St.empty.push (.cells 26 true [.int .i64 0,.str [],.int .i64 0])).next (.cells 26 true [.int .i64 1,.str (eX p7 s k),.int .i64 (k:Int)])).aS.get St.empty.next=some (.cells 26 true [.int .i64 0,.str [],.int .i64 0]):=by
   rw[yQ _ (by decide),wJ _ (by decide),xR]
  by_cases h16:eU p7 s k≤16
  ·rw[decide_eq_true h16,if_pos rfl,if_pos h16,v8 (wG _ _ _) rfl,Option.bind_some]
   obtain⟨st',h⟩:=mG (P:=C0.P) (T:=26) e0 1 (eX p7 s k) (k:Int) ((eU p7 s k:Nat):Int)
   exact congrArg (Option.map _) h
  ·rw[decide_eq_false h16,if_neg (by simp),if_neg h16,v8 (wG _ _ _) rfl,Option.bind_some]
   obtain⟨st',h⟩:=mG (P:=C0.P) (T:=26) e0 1 (eX p7 s k) (k:Int) 0
   exact congrArg (Option.map _) h
end
end Go.Proofs.YthodfojhbbendaaDoor
end
section
set_option linter.all false
set_option maxRecDepth 100000
namespace Go.Proofs.YthodfojhbbendaaDoor
open Go Go.Ev
noncomputable section
def MV:List (List UInt8):=[[60,62],[60,61],[62,61]]
def Mq:List UInt8:=[61,60,62,43,45,42,40,41,123,125,91,93,44,58,46]
def Aw:List (List UInt8):=MV ++ Mq.map fun c=>[c]
def yN (t:List UInt8):Option (List UInt8):=Aw.find? fun w=>decide (t.take w.length=w)
theorem Kr (R:Nat)(t w:List UInt8):kJ R t w=some (decide (t.take w.length=w)):=by
 unfold kJ lR jJ
 by_cases h:w.length≤t.length
 ·rw[if_pos (by omega),show(0:Int)=((0:Nat):Int) from rfl,xP (by omega) h,List.drop_zero,Option.bind_some]
  by_cases e:t.take w.length=w
  ·rw[if_pos e,decide_eq_true e]; rfl
  ·rw[if_neg e,decide_eq_false e]; rfl
 ·rw[if_neg (by omega),decide_eq_false]
  ·rfl
  ·intro e
   have:=congrArg List.length e
   rw[List.length_take] at this
   omega
theorem Gr {s:List UInt8}{k:Nat}(h:k≤s.length):Am s (k:Int) ((s.length:Nat):Int)=some (s.drop k):=by
 rw[xP h (Nat.le_refl _),List.take_length]
theorem KS (R : Nat) (s : List UInt8) (k : Nat) (hk : k ≤ s.length) (d t0 : Nat) (u : Bool) (a b c : AV) (ks : List (List UInt8)) (x : AV) (st : St) (hx : Sl st 1 x (ks.map AV.str)) (hl : ks.length ≤ 1000000) (hd : st.aS.get d = some (.cells t0 u [a, b, c])) : ∀ (r i : Nat), i ≤ ks.length → ks.length - i < r →
 ∃ st', iP R s (k : Int) d x (ks.length : Int) r (i : Int) st = some (match (ks.drop i).find? (fun w => decide ((s.drop k).take w.length = w)) with
  | some w=>.inl ((w.length:Int),st')
  | none=>.inr st)∧ ∀ w,(ks.drop i).find? (fun w=>decide ((s.drop k).take w.length=w))=some w→st'.aS.get d=some (.cells t0 u [.int .i64 6,.str w,.int .i64 (k:Int)]):=by
 intro r
 induction r with
 | zero=>intro i h1 h2; omega
 | succ r ih =>
   intro i h1 h2
   unfold iP
   by_cases hlt:i<ks.length
   ·rw[if_pos (by omega)]
    rw[show(Option.bind (cV C0.P 22 x (.int .i64 (i:Int))) _:Option ((Int×St) ⊕ St))=_ from H5 (P:=C0.P) (t:=22) (t':=9) (kd:=.i64) (fun w=>(Am s (k:Int) (List.length s:Nat)).bind fun q=>(kJ R q w).bind fun b=>if b=true then(storeAt C0.P st 26 (.ref d 0) (.agg [(.int .i64 6),(.str w),(.int .i64 (k:Int))])).bind fun s1=>some (.inl ((List.length w:Int),s1)) else iP R s (k:Int) d x (ks.length:Int) r (IntKind.wrap .i64 ((i:Int)+1)) st) hx hlt]
    rw[List.drop_eq_getElem_cons hlt,Gr hk,Option.bind_some,Kr,Option.bind_some,List.find?_cons]
    by_cases e:(s.drop k).take ks[i].length=ks[i]
    ·rw[decide_eq_true e,if_pos rfl,A0 (new:=[.int .i64 6,.str ks[i],.int .i64 (k:Int)]) hd rfl rfl rfl,Option.bind_some]
     refine⟨_,rfl,fun w hw=>?_⟩
     obtain rfl:=Option.some.inj hw
     exact wG _ _ _
    ·rw[decide_eq_false e,if_neg (by simp),w1 (by omega)]
     exact ih (i+1) hlt (by omega)
   ·have e0:ks.drop i=[]:=List.drop_eq_nil_of_le (by omega)
    rw[if_neg (by omega),e0]
    exact⟨st,rfl,fun w hw=>by cases hw⟩
def pA (s : List UInt8) (k : Nat) : Option (Int × List UInt8 × Nat) :=
 match s[k]? with
 | none=>none
 | some c =>
   if c=120∧s[k+1]? =some 39 then(jU (s.drop (k+2))).bind fun q=>(unhex q.1).map fun b=>(5,b,q.2+2)
   else if Jf c.toNat=true then
    (if isKey (eX p7 s k) then some (2,eX p7 s k,eU p7 s k) else if eU p7 s k≤16 then some (1,eX p7 s k,eU p7 s k) else none)
   else if wW c.toNat=true then(if Em (eX wW s k) then some (3,eX wW s k,eU wW s k) else none)
   else if c=39 then(jU (s.drop (k+1))).map fun q=>(4,q.1,q.2+1)
   else(yN (s.drop k)).map fun w=>(6,w,w.length)
theorem P1 (c:UInt8):((c.toNat:Int)=120)↔c=120:=by
 constructor
 ·intro h
  have:c.toNat=120:=by omega
  exact UInt8.toNat_inj.1 this
 ·rintro rfl; rfl
theorem Ot (R:Nat)(s:List UInt8)(k:Nat)(hs:s.length≤1000000)(hk:k<s.length):
 nL R s (k:Int) (s[k].toNat:Int)=some (decide (s[k]=120∧s[k+1]? =some 39)):=by
 unfold nL
 by_cases h1:s[k]=120
 ·rw[if_pos ((P1 _).2 h1),w1 (by omega)]
  by_cases h2:k+1<s.length
  ·rw[if_pos (by omega),tY h2,Option.bind_some,List.getElem?_eq_getElem h2]
   by_cases h3:s[k+1]=39
   ·rw[if_pos ((Nh _).2 h3),decide_eq_true ⟨h1,by rw[h3]⟩]
   ·rw[if_neg (fun h=>h3 ((Nh _).1 h)),decide_eq_false (fun h=>h3 (Option.some.inj h.2))]
  ·rw[if_neg (by omega),List.getElem?_eq_none (by omega),decide_eq_false (fun h=>by cases h.2)]
 ·rw[if_neg (fun h=>h1 ((P1 _).1 h)),decide_eq_false (fun h=>h1 h.1)]
theorem O9 (R : Nat) (w : List UInt8) (c : UInt8) (r : List UInt8) (hw : w = c :: r) : fW R (c.toNat : Int) (w.length : Int) w = some (!Em w) := by
 unfold fW Em
 have hh:w.head?=some c:=by rw[hw]; rfl
 rw[hh]
 by_cases h1:1<w.length
 ·rw[if_pos (by omega),decide_eq_true h1,Bool.true_and]
  by_cases h2:c=48
  ·rw[if_pos ((Pz _).2 h2),h2]; rfl
  ·rw[if_neg (fun h=>h2 ((Pz _).1 h))]
   have:(some c == some (48:UInt8))=false:=by simpa using h2
   rw[this]
   by_cases h3:w.length>19
   ·rw[if_pos (by omega),decide_eq_false (by omega:¬ w.length≤19)]; rfl
   ·rw[if_neg (by omega),decide_eq_true (by omega:w.length≤19)]
    by_cases h4:w.length<19
    ·rw[if_neg (by omega),decide_eq_true h4]; rfl
    ·rw[if_pos (by omega),decide_eq_false h4]
     show(if(!(strLt w zL || kG w zL))=true then some true else some false)=_
     cases(strLt w zL || kG w zL) <;> rfl
 ·rw[if_neg (by omega),decide_eq_false h1,decide_eq_true (by omega:w.length≤19),decide_eq_true (by omega:w.length<19)]; rfl
theorem Mi (t:Nat)(cs:List AV):(St.empty.push (.cells t true cs)).aS.get St.empty.next=some (.cells t true cs):=xR _ _
theorem NO (R : Nat) (s : List UInt8) (k : Nat) (hs : s.length ≤ 1000000) (hk : k < s.length) : ∃ a b c, rP R s (k : Int) = some (match pA s k with
 | some (kd,w,n)=>(kd,w,(k:Int),((n:Nat):Int))
 | none=>(a,b,c,0)):=by
 have key:∃ a b c st',AI 2000000 s (k:Int) St.empty=some (match pA s k with
  | some (kd,w,n)=>(kd,w,(k:Int),((n:Nat):Int),st')
  | none=>(a,b,c,0,st')):=by
  unfold AI pA
  rw[tY hk,Option.bind_some,Ot _ s k hs hk,Option.bind_some,List.getElem?_eq_getElem hk]
  simp only
  by_cases hx:s[k]=120∧s[k+1]? =some 39
  ·obtain⟨h2,_⟩:=List.getElem?_eq_some_iff.1 hx.2
   rw[decide_eq_true hx,if_pos rfl,if_pos hx,w1 (by omega),Gr (by omega),Option.bind_some,Ji _ _ (by rw[List.length_drop]; omega) (by rw[List.length_drop]; omega),Option.bind_some,List.drop_drop,show k+1+1=k+2 from rfl]
   cases hq:jU (s.drop (k+2)) with
   | none =>
     simp only
     rw[FU 2000000 [] [] (by simp) rfl,Option.bind_some]
     simp only[iN,if_true,Option.bind_some]
     obtain⟨st',h⟩:=mG (P:=C0.P) (T:=26) (Mi 26 [.int .i64 0,.str [],.int .i64 0]) 0 [] (k:Int) 0
     exact⟨_,_,_,st',h⟩
   | some q =>
     obtain⟨t,n⟩:=q
     have hl:=rS _ _ _ hq
     rw[List.length_drop] at hl
     simp only[Option.bind_some]
     cases hu:unhex t with
     | none =>
       obtain⟨b,hb⟩:=KY 2000000 t (by omega) hu
       rw[hb,Option.bind_some]
       simp only[iN]
       rw[if_neg (by omega)]
       simp only[if_true,Bool.false_eq_true,if_false,Option.bind_some]
       obtain⟨st',h⟩:=mG (P:=C0.P) (T:=26) (Mi 26 [.int .i64 0,.str [],.int .i64 0]) 0 [] (k:Int) 0
       exact⟨_,_,_,st',h⟩
     | some b =>
       rw[FU 2000000 t b (by omega) hu,Option.bind_some]
       simp only[iN]
       rw[if_neg (by omega)]
       simp only[if_true,Bool.false_eq_true,if_false,Option.bind_some]
       rw[show(((1+n:Nat):Int)+1)=(((1+n:Nat):Int)+((1:Nat):Int)) from rfl,wN (by omega)]
       obtain⟨st',h⟩:=mG (P:=C0.P) (T:=26) (Mi 26 [.int .i64 0,.str [],.int .i64 0]) 5 b (k:Int) ((1+n+1:Nat):Int)
       refine⟨0,[],0,st',h.trans ?_⟩
       simp only[Option.map_some]
       rw[show 1+n+1=n+2 by omega]
  ·rw[decide_eq_false hx,if_neg (by simp),if_neg hx,NA,Option.bind_some]
   by_cases hL:Jf s[k].toNat=true
   ·rw[if_pos hL,if_pos hL,LW s k hs hk hL,Option.bind_some]
    by_cases hkey:isKey (eX p7 s k)=true
    ·rw[if_pos hkey,if_pos hkey]
     obtain⟨st',h⟩:=mG (P:=C0.P) (T:=26) (Mi 26 [.int .i64 0,.str [],.int .i64 0]) 2 (eX p7 s k) (k:Int) ((eU p7 s k:Nat):Int)
     exact⟨0,[],0,st',h⟩
    ·rw[if_neg hkey,if_neg hkey]
     by_cases h16:eU p7 s k≤16
     ·rw[if_pos h16,if_pos h16]
      obtain⟨st',h⟩:=mG (P:=C0.P) (T:=26) (Mi 26 [.int .i64 0,.str [],.int .i64 0]) 1 (eX p7 s k) (k:Int) ((eU p7 s k:Nat):Int)
      exact⟨0,[],0,st',h⟩
     ·rw[if_neg h16,if_neg h16]
      obtain⟨st',h⟩:=mG (P:=C0.P) (T:=26) (Mi 26 [.int .i64 0,.str [],.int .i64 0]) 1 (eX p7 s k) (k:Int) 0
      exact⟨_,_,_,st',h⟩
   ·rw[if_neg hL,if_neg hL,MA,Option.bind_some]
    by_cases hD:wW s[k].toNat=true
    ·have hle:=mE wW s k (by omega)
     obtain⟨r,hr⟩:=BF hk hD
     rw[if_pos hD,if_pos hD,KM 2000000 s k hs (by omega) (by omega),Option.bind_some,wN (by omega),xP (by omega) (by omega),Fa (by omega),Option.bind_some]
     rw[show fW 2000000 (s[k].toNat:Int) ((eU wW s k:Nat):Int) (eX wW s k)=_ from O9 2000000 (eX wW s k) s[k] r hr,Option.bind_some]
     cases Em (eX wW s k) with
     | true =>
       simp only[Bool.not_true,Bool.false_eq_true,if_false,if_true]
       obtain⟨st',h⟩:=mG (P:=C0.P) (T:=26) (Mi 26 [.int .i64 0,.str [],.int .i64 0]) 3 (eX wW s k) (k:Int) ((eU wW s k:Nat):Int)
       exact⟨0,[],0,st',h⟩
     | false =>
       simp only[Bool.not_false,Bool.false_eq_true,if_false,if_true]
       obtain⟨st',h⟩:=mG (P:=C0.P) (T:=26) (Mi 26 [.int .i64 0,.str [],.int .i64 0]) 0 [] (k:Int) 0
       exact⟨_,_,_,st',h⟩
    ·rw[if_neg hD,if_neg hD]
     by_cases hq:s[k]=39
     ·rw[if_pos ((Nh _).2 hq),if_pos hq,Gr (by omega),Option.bind_some,Ji _ _ (by rw[List.length_drop]; omega) (by rw[List.length_drop]; omega),Option.bind_some,List.drop_drop]
      cases hb:jU (s.drop (k+1)) with
      | none =>
        simp only
        obtain⟨st',h⟩:=mG (P:=C0.P) (T:=26) (Mi 26 [.int .i64 0,.str [],.int .i64 0]) 4 [] (k:Int) 0
        exact⟨_,_,_,st',h⟩
      | some q =>
        obtain⟨t,n⟩:=q
        simp only[Option.map_some]
        obtain⟨st',h⟩:=mG (P:=C0.P) (T:=26) (Mi 26 [.int .i64 0,.str [],.int .i64 0]) 4 t (k:Int) ((1+n:Nat):Int)
        exact⟨0,[],0,st',h.trans (by rw[Nat.add_comm 1 n])⟩
     ·rw[if_neg (fun h=>hq ((Nh _).1 h)),if_neg hq]
      have e:∀ st,eK (aU C0.P (C0.bU 17) 22 18 [(0,(.str [60,62])),(1,(.str [60,61])),(2,(.str [62,61])),(3,(.str [61])),(4,(.str [60])),(5,(.str [62])),(6,(.str [43])),(7,(.str [45])),(8,(.str [42])),(9,(.str [40])),(10,(.str [41])),(11,(.str [123])),(12,(.str [125])),(13,(.str [91])),(14,(.str [93])),(15,(.str [44])),(16,(.str [58])),(17,(.str [46]))]) st=some (.sl st.next 18 18 1 (some 18) (Aw.map AV.str),st.push (.oE 18)):=fun st=>by kernel_rfl
      rw[e,Option.bind_some]
      simp only[lenOf,Option.bind_some]
      have hx0:Sl ((St.empty.push (.cells 26 true [.int .i64 0,.str [],.int .i64 0])).push (.oE 18)) 1 (.sl (St.empty.push (.cells 26 true [.int .i64 0,.str [],.int .i64 0])).next 18 18 1 (some 18) (Aw.map AV.str)) (Aw.map AV.str):=.inr ⟨_,_,_,_,rfl,rfl,Nat.lt_succ_self _,.inl rfl⟩
      have hd0:((St.empty.push (.cells 26 true [.int .i64 0,.str [],.int .i64 0])).push (.oE 18)).aS.get St.empty.next=some (.cells 26 true [.int .i64 0,.str [],.int .i64 0]):=by
       rw[wJ _ (by decide),xR]
      obtain⟨st1,h1,h2⟩:=KS 2000000 s k (by omega) St.empty.next 26 true _ _ _ Aw _ _ hx0 (by decide) hd0 2000000 0 (by decide) (by decide)
      have h1':iP 2000000 s (k:Int) St.empty.next (.sl (St.empty.push (.cells 26 true [.int .i64 0,.str [],.int .i64 0])).next 18 18 1 (some 18) (Aw.map AV.str)) ((18:Nat):Int) 2000000 0 ((St.empty.push (.cells 26 true [.int .i64 0,.str [],.int .i64 0])).push (.oE 18))=_:=h1
      rw[h1',Option.bind_some,List.drop_zero]
      rw[List.drop_zero] at h2
      unfold yN
      cases hf:Aw.find? (fun w=>decide ((s.drop k).take w.length=w)) with
      | none =>
        simp only
        obtain⟨st',h⟩:=mG (P:=C0.P) (T:=26) hd0 0 [] (k:Int) 0
        exact⟨_,_,_,st',h⟩
      | some w =>
        simp only[Option.map_some]
        rw[v8 (h2 w hf) rfl,Option.bind_some]
        exact⟨0,[],0,st1,rfl⟩
 obtain⟨a,b,c,st',h⟩:=key
 refine⟨a,b,c,?_⟩
 unfold rP
 rw[h]
 cases pA s k <;> rfl
end
end Go.Proofs.YthodfojhbbendaaDoor
end
section
set_option linter.all false
set_option maxRecDepth 100000
namespace Go.Proofs.YthodfojhbbendaaDoor
open Go Go.Ev
noncomputable section
theorem BJ {t w:List UInt8}(h:yN t=some w):1≤w.length∧w.length≤t.length:=by
 unfold yN at h
 have h1:=List.mem_of_find?_eq_some h
 have h2:=List.find?_some h
 simp only[decide_eq_true_eq] at h2
 constructor
 ·have:∀ w ∈ Aw,1≤w.length:=by decide
  exact this w h1
 ·have:=congrArg List.length h2
  rw[List.length_take] at this
  omega
theorem yH {s : List UInt8} {k : Nat} {kd : Int} {w : List UInt8} {n : Nat} (hk : k < s.length) (h : pA s k = some (kd, w, n)) : 1 ≤ n ∧ k + n ≤ s.length := by
 unfold pA at h
 rw[List.getElem?_eq_getElem hk] at h
 simp only at h
 split at h
 ·rename_i hx
  obtain⟨h2,_⟩:=List.getElem?_eq_some_iff.1 hx.2
  obtain⟨⟨t,m⟩,h3,h4⟩:=Option.bind_eq_some_iff.1 h
  obtain⟨b,h5,h6⟩:=Option.map_eq_some_iff.1 h4
  cases h6
  have:=rS _ _ _ h3
  rw[List.length_drop] at this
  omega
 ·split at h
  ·rename_i hL
   have h1:=mE p7 s k (by omega)
   have h2:=Ab (p:=p7) hk (by simp[p7,hL])
   split at h
   ·cases h; omega
   ·split at h
    ·cases h; omega
    ·cases h
  ·split at h
   ·rename_i hD
    have h1:=mE wW s k (by omega)
    have h2:=Ab (p:=wW) hk hD
    split at h
    ·cases h; omega
    ·cases h
   ·split at h
    ·obtain⟨⟨t,m⟩,h3,h4⟩:=Option.map_eq_some_iff.1 h
     cases h4
     have:=rS _ _ _ h3
     rw[List.length_drop] at this
     omega
    ·obtain⟨w',h3,h4⟩:=Option.map_eq_some_iff.1 h
     cases h4
     have:=BJ h3
     rw[List.length_drop] at this
     omega
theorem CF (l:List W)(w:W):lA l ++ BB w=lA (l ++ [w]):=by simp[lA]
def tk (s : List UInt8) : Nat → Nat → List W × Option Nat
 | 0,_=>([],none)
 | f + 1, j => if j < s.length then (match pA s j with
  | none=>([],some j)
  | some (kd,w,n)=>((kd,w,(j:Int)) :: (tk s f (j+n+eU oS s (j+n))).1,(tk s f (j+n+eU oS s (j+n))).2))
   else([],none)
def kL (s:List UInt8):List W×Option Nat:=tk s (s.length+1) (eU oS s 0)
end
end Go.Proofs.YthodfojhbbendaaDoor
end
section
set_option linter.all false
set_option maxRecDepth 100000
namespace Go.Proofs.YthodfojhbbendaaDoor
open Go Go.Ev
noncomputable section
noncomputable def gG (R:Nat)(b:List UInt8)(c:Int):Nat→Int→Option ((Int))
 | 0,_=>none
 | r + 1, a =>
   if(a<(List.length b:Int)) then
    (Al b a).bind fun d=>
    (nD R d).bind fun e=>
    if e=true then
     gG R b c r (IntKind.wrap .i64 (a+1))
    else
     some a
   else
    some a
noncomputable def lX (st:St)(o:(Int)):cZ×List (Nat×AV)×St:=match o with
 | a0=>((.exit 0),[(7,.int .i64 a0)],st)
theorem vB (R n : Nat) (f : List UInt8) (g : Int) (a : St) : ∀ (r : Nat) (b : Int) (o : (Int)), gG R f g r b = some o →
 cM 25 (lO (fun fr k=>bN C0 (aR C0 cK R (n+1)) 15 R none (aQ C0.P 15 [1,1,0,0,0]) fr k) r) (bG (aQ C0.P 15 [1,1,0,0,0])) [(0,(.str f)),(1,(.int .i64 g)),(2,(.func (.func 16) [] [])),(7,(.int .i64 b))] a (lX a o).1 (lX a o).2.1 (lX a o).2.2:=by
 intro r
 induction r with
 | zero=>intro b o h; exact nomatch h
 | succ r ih =>
   intro b o
   unfold gG;refine bD (fun c=>?_) (fun c=>?_)
   ·refine aA fun d i=>?_;refine aA fun l j=>?_;refine bD (fun e=>?_) (fun e=>?_)
    ·subst e;intro h;exact dP (aO (hs:=[.run 3,.dec true,.run 4,.val (.int .u8 d),.call (.bool true) a,.run 1,.aJ,.aJ,.run 3]) (want:=[0,1,2,7]) (by kernel_rfl) (.cons (vE R n d a _ j)<|.cons (iL (k:=.i64) (P:=C0.P) (t:=9) (by kernel_rfl) i)<|.cons (decide_eq_true c) .nil)) (ih (IntKind.wrap .i64 (b+1)) _ h)
    ·obtain rfl:=bF e;intro h;obtain rfl:=cB h;exact cF (aO (hs:=[.run 3,.dec true,.run 4,.val (.int .u8 d),.call (.bool false) a,.run 1,.aJ]) (want:=[7]) (by kernel_rfl) (.cons (vE R n d a _ j)<|.cons (iL (k:=.i64) (P:=C0.P) (t:=9) (by kernel_rfl) i)<|.cons (decide_eq_true c) .nil)) (by kernel_rfl)
   ·intro h;obtain rfl:=cB h;exact cF (aO (hs:=[.run 3,.dec false,.run 2,.aJ]) (want:=[7]) (by kernel_rfl) (.cons (decide_eq_false c) .nil)) (by kernel_rfl)
noncomputable def l5 (R:Nat)(a:List UInt8)(b:Int)(c:Int):Option (Int):=
 (gG R a b R c).bind fun d=>
 some d
theorem vV {R:Nat}(n:Nat){b:List UInt8}{c:Int}{d:Int}(a:St){r:Int}(h:l5 R b c d=some r):
 cM 25 (bN C0 (aR C0 cK R (n+1)) 15 R none (aQ C0.P 15 [1,1,0])) (bG (aQ C0.P 15 [1,1,0])) [(0,(.str b)),(1,(.int .i64 c)),(2,(.func (.func 16) [] [])),(7,(.int .i64 d))] a .normal [(7,.int .i64 r)] a:=by
 revert h;unfold l5;refine aA fun e f=>?_;intro h;obtain rfl:=cB h;exact aO (hs:=[.aJ,.abs [0,1,2,7] (.exit 0) [(7,(.int .i64 e))] a]) (want:=[7]) (by kernel_rfl) (aK (cW (vB R n b c a R d _ f)) gD)
noncomputable def kH (R:Nat)(b:List UInt8)(a:Int):Option (Int):=
 (l5 R b a a).bind fun c=>
 some (IntKind.wrap .i64 (c - a))
theorem oJ {R:Nat}(n:Nat){b:List UInt8}{c:Int}(a:St){r:Int}(h:kH R b c=some r):
 b7 (aR C0 cK R (n+2)) false 15 [(.str b),(.int .i64 c),(.func (.func 16) [] [])] a (.int .i64 r) a:=by
 revert h;unfold kH;refine aA fun d e=>?_;intro h;obtain rfl:=cB h;exact aL (hs:=[.run 3,.rX [0,1,2,7] .normal [(7,(.int .i64 d))] a,.run 4]) (by kernel_rfl) (aK (vV n a e) gD) (by kernel_rfl) (by kernel_rfl)
noncomputable def kI (R:Nat)(b:List UInt8):Nat→AV→Int→St→Option ((AV×Int×Int×St) ⊕ (AV×St))
 | 0,_,_,_=>none
 | r + 1, f, a, c =>
   if(a<(List.length b:Int)) then
    (rP R b a).bind fun(g,h,i,d)=>
    (storeAt C0.P (St.push c (.cells 26 true [(.int .i64 0),(.str []),(.int .i64 0)])) 26 (.ref (St.next c) 0) (.agg [(.int .i64 g),(.str h),(.int .i64 i)])).bind fun e=>
    if(d=0) then
     some (.inl (AV.aB,a,110,e))
    else
     (loadAt C0.P e 26 (.ref (St.next c) 0)).bind fun j=>
     (cD j).bind fun(k,l,m)=>
     (eK (aU C0.P (C0.bU 10) 40 1 [(0,(.agg [(.int .i64 k),(.str l),(.int .i64 m)]))]) e).bind fun(n,o)=>
     (bW C0.P (C0.bU 10) o #[40,40] f n).bind fun(p,q)=>
     (kH R b (IntKind.wrap .i64 (a+d))).bind fun s=>
     kI R b r p (IntKind.wrap .i64 ((IntKind.wrap .i64 (a+d))+s)) q
   else
    some (.inr (f,c))
noncomputable def p5 (o:(AV×Int×Int×St) ⊕ (AV×St)):cZ×List (Nat×AV)×St:=match o with
 | .inl (a0,a1,a2,a3)=>(.ret,[(2,a0),(3,.int .i64 a1),(4,.int .i64 a2)],a3)
 | .inr (a0,a1)=>((.exit 0),[(5,a0)],a1)
theorem sI (R n : Nat) (c : List UInt8) : ∀ (r : Nat) (d : AV) (b : Int) (a : St) (o : (AV × Int × Int × St) ⊕ (AV × St)), kI R c r d b a = some o →
 cM 45 (lO (fun fr k=>bN C0 (aR C0 cK R (n+2)) 10 R none (aQ C0.P 10 [1,1,1,1,0,0,0]) fr k) r) (bG (aQ C0.P 10 [1,1,1,1,0,0,0])) [(0,(.str c)),(5,d),(6,(.int .i64 b))] a (p5 o).1 (p5 o).2.1 (p5 o).2.2:=by
 intro r
 induction r with
 | zero=>intro d b a o h; exact nomatch h
 | succ r ih =>
   intro d b a o
   unfold kI;refine bD (fun e=>?_) (fun e=>?_)
   ·refine aA fun o j=>?_;obtain⟨l,m,p,g⟩:=o;refine aA fun q s=>?_;refine bD (fun i=>?_) (fun i=>?_)
    ·intro h;obtain rfl:=cB h;exact cF (aO (hs:=[.run 3,.dec true,.aJ,.aJ,.run 2,.call (.tuple [(.agg [(.int .i64 l),(.str m),(.int .i64 p)]),(.int .i64 g)]) a,.run 4,.bM AV.undef q,.run 2,.dec true,.aJ,.run 4]) (want:=[2,3,4]) (by kernel_rfl) (.cons (gA i)<|.cons (aP s)<|.cons (wM R (n+1) c b a _ j)<|.cons (decide_eq_true e) .nil)) (by kernel_rfl)
    ·refine aA fun F v=>?_;refine aA fun o w=>?_;obtain⟨x,y,z⟩:=o;obtain rfl:=bT w;refine aA fun o A=>?_;obtain⟨B,C⟩:=o;refine aA fun o D=>?_;obtain⟨t,f⟩:=o;refine aA fun u E=>?_;intro h;exact dP (aO (hs:=[.run 3,.dec true,.aJ,.aJ,.run 2,.call (.tuple [(.agg [(.int .i64 l),(.str m),(.int .i64 p)]),(.int .i64 g)]) a,.run 4,.bM AV.undef q,.run 2,.dec false,.aJ,.run 1,.val (.agg [(.int .i64 x),(.str y),(.int .i64 z)]),.bM B C,.bM t f,.run 8,.call (.int .i64 u) f,.run 2]) (want:=[0,5,6]) (by kernel_rfl) (.cons (oJ n f E)<|.cons D<|.cons A<|.cons v<|.cons (eW i)<|.cons (aP s)<|.cons (wM R (n+1) c b a _ j)<|.cons (decide_eq_true e) .nil)) (ih t (IntKind.wrap .i64 ((IntKind.wrap .i64 (b+g))+u)) f _ h)
   ·intro h;obtain rfl:=cB h;exact cF (aO (hs:=[.run 3,.dec false,.aJ]) (want:=[5]) (by kernel_rfl) (.cons (decide_eq_false e) .nil)) (by kernel_rfl)
noncomputable def qH (R:Nat)(a:List UInt8)(b:St):Option (AV×Int×Int×St):=
 if((List.length a:Int)>2000) then
  some (AV.aB,2000,3,b)
 else
  (kH R a 0).bind fun c=>
  (kI R a R AV.aB c b).bind fun o=>match o with
  | .inl (d,e,f,g)=>
   some (d,e,f,g)
  | .inr (h,i)=>
   (eK (aU C0.P (C0.bU 10) 40 1 [(0,(.agg [(.int .i64 0),(.str []),(.int .i64 (List.length a:Int))]))]) i).bind fun(j,k)=>
   (bW C0.P (C0.bU 10) k #[40,40] h j).bind fun(l,m)=>
   some (l,0,0,m)
theorem yM {R:Nat}(n:Nat){b:List UInt8}{a:St}{r:AV×Int×Int×St}(h:qH R b a=some r):
 b7 (aR C0 cK R (n+3)) false 10 [(.str b)] a (.tuple [r.1,(.int .i64 r.2.1),(.int .i64 r.2.2.1)]) r.2.2.2:=by
 revert h;unfold qH;refine bD (fun c=>?_) (fun c=>?_)
 ·intro h;obtain rfl:=cB h;exact aL (hs:=[.run 5,.dec true,.aJ,.run 3]) (by kernel_rfl) (aK (decide_eq_true c) gD) (by kernel_rfl) (by kernel_rfl)
 ·refine aA fun d e=>?_;refine aA fun o f=>?_
  rcases o with⟨g,i,j,k⟩ | ⟨l,m⟩
  ·intro h;obtain rfl:=cB h;exact aL (hs:=[.run 5,.dec false,.aJ,.run 2,.call (.int .i64 d) a,.run 1,.aJ,.abs [0,5,6] .ret [(2,g),(3,(.int .i64 i)),(4,(.int .i64 j))] k]) (by kernel_rfl) (aK (cW (sI R n b R AV.aB d a _ f))<|aK (oJ n a e)<|aK (decide_eq_false c) gD) (by kernel_rfl) (by kernel_rfl)
  ·refine aA fun o p=>?_;obtain⟨q,s⟩:=o;refine aA fun o t=>?_;obtain⟨u,v⟩:=o;intro h;obtain rfl:=cB h;exact aL (hs:=[.run 5,.dec false,.aJ,.run 2,.call (.int .i64 d) a,.run 1,.aJ,.abs [0,5,6] (.exit 0) [(5,l)] m,.run 4,.bM q s,.bM u v,.run 3]) (by kernel_rfl) (aK t<|aK p<|aK (cW (sI R n b R AV.aB d a _ f))<|aK (oJ n a e)<|aK (decide_eq_false c) gD) (by kernel_rfl) (by kernel_rfl)
end
end Go.Proofs.YthodfojhbbendaaDoor
end
section
set_option linter.all false
set_option maxRecDepth 100000
set_option maxHeartbeats 1000000
namespace Go.Proofs.YthodfojhbbendaaDoor
open Go Go.Ev
noncomputable section
attribute [local congr] rL zU
theorem Cw (R:Nat)(s:List UInt8)(i0:Int):∀ r i,gG R s i0 r i=Lz (nD R) s r i
 | 0,_=>rfl
 | r+1,i=>by unfold gG Lz; simp only[Cw R s i0 r]
theorem Fu (R:Nat)(s:List UInt8)(k:Nat)(hs:s.length≤1000000)(hk:k≤s.length)(hR:s.length<R):kH R s (k:Int)=.some ((eU oS s k:Nat):Int):=by
 have:=mE oS s k hk
 unfold kH l5
 rw[Cw,Mv (OR R) s hs R k hk (by omega),Option.bind_some,Option.bind_some,wrap64 (by omega) (by omega)]
 congr 1; omega
def nE (s:List UInt8):List W:=(kL s).1 ++ [(0,[],(s.length:Int))]
theorem Dn (w:W):(BB w).all AV.one=true:=rfl
theorem Hb {R : Nat} {s : List UInt8} (hs : s.length ≤ 2000) (hR : s.length < R) {st0 : St} {φ : (AV × Int × Int × St) ⊕ (AV × St) → Prop} {l : List W} {e : Option Nat}
 (hb:∀ j st1,e=.some j→KN st0 st1→φ (.inl (.aB,(j:Int),110,st1)))
 (hg:∀ x st1,e=none→Sl st1 3 x (lA l)→(∀ id,dO x id→st0.next≤id)→l.length≤s.length→KN st0 st1→φ (.inr (x,st1))):
 ∀ (r f k : Nat) {x : AV} {st : St} {acc : List W}, Sl st 3 x (lA acc) → KN st0 st → (∀ id, dO x id → st0.next ≤ id) → k ≤ s.length → s.length - k < r → s.length - k < f → acc.length ≤ k → acc ++ (tk s f k).1 = l → (tk s f k).2 = e →
  T φ (kI R s r x (k:Int) st)
 | 0,f,k,_,_,_,_,_,_,_,hr,_,_,_,_=>by omega
 | r+1,0,k,_,_,_,_,_,_,_,_,hf,_,_,_=>by omega
 | r + 1, f + 1, k, x, st, acc, hx, hK, hfm, hk, hr, hf, ha, hl, he => by
   have hKl:=hK.1
   unfold kI
   unfold tk at hl he
   by_cases hlt:k<s.length
   ·refine T.jC (by omega) ?_
    rw[if_pos hlt] at hl he
    obtain⟨a,b,c,hn⟩:=NO R s k (by omega) hlt
    refine T.step hn ?_
    cases hw:pA s k with
    | none =>
      rw[hw] at hl he
      dsimp only
      repeat(refine T.step (by simp(disch:=(first | ((repeat(first | rw[aC] | rw[aE] | rw[List.length_cons] | rw[List.length_nil])) <;> omega) | (refine(?_:_∧True).1; constructor; simp only[aM, *]; exact True.intro))) only[bB]; try exact rfl) ?_)
      refine T.jC rfl ?_
      exact T.some (hb k _ he.symm (by repeat' (first | exact hK | exact KN.refl | refine KN.eI ?_ | refine KN.loc ?_ ?_ | ((try simp only[aC,aE]) <;> omega))))
    | some q =>
      obtain⟨kd,w,n⟩:=q
      rw[hw] at hl he
      dsimp only at hl he ⊢
      obtain⟨l1,l2⟩:=yH hlt hw
      have hbl:=mE oS s (k+n) (by omega)
      repeat(refine T.step (by simp(disch:=(first | ((repeat(first | rw[aC] | rw[aE] | rw[List.length_cons] | rw[List.length_nil])) <;> omega) | (refine(?_:_∧True).1; constructor; simp only[aM, *]; exact True.intro))) only[bB]; try exact rfl) ?_)
      refine T.lG (by omega) ?_
      repeat(refine T.step (by simp(disch:=(first | ((repeat(first | rw[aC] | rw[aE] | rw[List.length_cons] | rw[List.length_nil])) <;> omega) | (refine(?_:_∧True).1; constructor; simp only[aM, *]; exact True.intro))) only[bB]; try exact rfl) ?_)
      have hK1:KN st0 ((st.push (.cells 26 true [.int .i64 0,.str [],.int .i64 0])).put st.next (.cells 26 true [.int .i64 kd,.str w,.int .i64 (k:Int)])):=KN.loc (KN.eI hK) hK.1
      have hx1:Sl ((st.push (.cells 26 true [.int .i64 0,.str [],.int .i64 0])).put st.next (.cells 26 true [.int .i64 kd,.str w,.int .i64 (k:Int)])) 3 x (lA acc):=Sl.put (hx.push _) (fun h=>absurd (Sl.nV hx h) (by omega))
      refine NR (t:=40) (v:=.agg (BB (kd,w,(k:Int)))) hK1 hx1 hfm rfl (Dn _) (by rw[vY]; simp only[iT]; omega) (by decide) fun x' st2 K2 S2 hf2 hg2 hn2=>?_
      have e1:IntKind.wrap .i64 ((k:Int)+(n:Int))=((k+n:Nat):Int):=wN (by omega)
      have e2:IntKind.wrap .i64 (((k+n:Nat):Int)+((eU oS s (k+n):Nat):Int))=((k+n+eU oS s (k+n):Nat):Int):=wN (by omega)
      rw[e1]
      refine T.step (Fu R s (k+n) (by omega) (by omega) hR) ?_
      rw[e2]
      have S3:Sl st2 3 x' (lA (acc ++ [(kd,w,(k:Int))])):=by rw[← CF]; exact S2
      exact Hb hs hR hb hg r f (k+n+eU oS s (k+n)) S3 K2 hf2 (by omega) (by omega) (by omega) (by simp; omega) (by rw[List.append_assoc]; exact hl) he
   ·refine T.lG (by omega) ?_
    rw[if_neg hlt] at hl he
    simp only[List.append_nil] at hl
    exact T.some (hg _ _ he.symm (by rw[← hl]; exact hx) hfm (by rw[← hl]; omega) hK)
theorem Gv {R:Nat}{s:List UInt8}(hs:s.length≤2000)(hR:3000<R){st:St}{φ:AV×Int×Int×St→Prop}
 (hb:∀ j st1,(kL s).2=.some j→KN st st1→φ (.aB,(j:Int),110,st1))
 (hg:∀ x st1,(kL s).2=none→Row 3 x (lA (nE s))→(kL s).1.length≤s.length→KN st st1→φ (x,0,0,st1)):T φ (qH R s st):=by
 unfold qH
 have hbl:=mE oS s 0 (by omega)
 refine T.lG (by omega) ?_
 refine T.step (Fu R s 0 (by omega) (by omega) (by omega)) ?_
 rw[Nat.zero_add] at hbl
 refine T.bind (Hb (st0:=st) (l:=(kL s).1) (e:=(kL s).2) hs (by omega) (fun j st1 he k1=>T.some (hb j st1 he k1)) (fun x st1 he S1 hf1 hl1 k1=>?_) R (s.length+1) (eU oS s 0) (acc:=[]) (Sl.nil st 3) KN.refl (fun id h=>h.elim) hbl (by omega) (by omega) (Nat.zero_le _) rfl rfl)
 refine NR (t:=40) (v:=.agg (BB (0,[],(s.length:Int)))) k1 S1 hf1 rfl (Dn _) (by rw[vY]; simp only[iT]; omega) (by decide) fun x' st2 K2 S2 hf2 hg2 hn2=>?_
 refine T.some (hg _ _ he ?_ hl1 K2)
 have S3:Sl st2 3 x' (lA (nE s)):=by unfold nE; rw[← CF]; exact S2
 exact S3.row
end
end Go.Proofs.YthodfojhbbendaaDoor
end
section
set_option linter.all false
set_option maxRecDepth 100000
namespace Go.Proofs.YthodfojhbbendaaDoor
open Go Go.Ev
noncomputable section
def val (l:List UInt8):Nat:=l.foldl (fun a c=>a * 10+(c.toNat - 48)) 0
theorem CQ (c:UInt8)(l:List UInt8):val (c :: l)=(c.toNat - 48) * 10 ^ l.length+val l:=by
 have key:∀(l:List UInt8) (a:Nat),l.foldl (fun a c=>a * 10+(c.toNat - 48)) a=a * 10 ^ l.length+val l:=by
  intro l
  induction l with
  | nil=>intro a; simp[val]
  | cons b l ih =>
    intro a
    simp only[List.foldl_cons,List.length_cons,val]
    rw[ih,ih (0 * 10+(b.toNat - 48)),Nat.pow_succ,Nat.add_mul]
    simp only[Nat.zero_mul,Nat.zero_add]
    rw[Nat.mul_assoc,Nat.mul_comm 10]
    omega
 show l.foldl _ (0 * 10+(c.toNat - 48))=_
 rw[key]; simp
theorem II {l:List UInt8}(h:∀ c ∈ l,wW c.toNat=true):val l<10 ^ l.length:=by
 induction l with
 | nil=>simp[val]
 | cons c l ih =>
   rw[CQ,List.length_cons,Nat.pow_succ]
   have h1:=ih fun c hc=>h c (List.mem_cons_of_mem _ hc)
   have h2:=h c List.mem_cons_self
   simp only[wW,Bool.and_eq_true,decide_eq_true_eq] at h2
   have h3:(c.toNat - 48) * 10 ^ l.length≤9 * 10 ^ l.length:=Nat.mul_le_mul_right _ (by omega)
   omega
theorem La : ∀ {a b : List UInt8}, a.length = b.length → (∀ c ∈ a, wW c.toNat = true) → (∀ c ∈ b, wW c.toNat = true) → (strLt a b || kG a b) = decide (val a ≤ val b)
 | [],[],_,_,_=>rfl
 | x :: a, y :: b, hl, ha, hb => by
   have h1:=La (a:=a) (b:=b) (by simpa using hl) (fun c hc=>ha c (List.mem_cons_of_mem _ hc)) (fun c hc=>hb c (List.mem_cons_of_mem _ hc))
   have h2:=ha x List.mem_cons_self
   have h3:=hb y List.mem_cons_self
   simp only[wW,Bool.and_eq_true,decide_eq_true_eq] at h2 h3
   have v1:=II fun c hc=>ha c (List.mem_cons_of_mem _ hc)
   have v2:=II fun c hc=>hb c (List.mem_cons_of_mem _ hc)
   have hl':a.length=b.length:=by simpa using hl
   rw[CQ,CQ,← hl']
   rw[← hl'] at v2
   simp only[strLt,kG]
   rcases Nat.lt_trichotomy x.toNat y.toNat with h | h | h
   ·have e1:Nat.blt x.toNat y.toNat=true:=Nat.ble_eq_true_of_le h
    rw[e1,Bool.true_or,Bool.true_or]
    symm
    rw[decide_eq_true_eq]
    have:(x.toNat - 48+1) * 10 ^ a.length≤(y.toNat - 48) * 10 ^ a.length:=Nat.mul_le_mul_right _ (by omega)
    rw[Nat.add_mul] at this
    omega
   ·have e1:Nat.blt x.toNat y.toNat=false:=by
     cases e:Nat.blt x.toNat y.toNat with
     | false=>rfl
     | true=>have:=Nat.le_of_ble_eq_true e; omega
    rw[e1,h,Nat.beq_refl,Bool.false_or,Bool.true_and,Bool.true_and,h1]
    exact decide_eq_decide.2 (by omega)
   ·have e1:Nat.blt x.toNat y.toNat=false:=by
     cases e:Nat.blt x.toNat y.toNat with
     | false=>rfl
     | true=>have:=Nat.le_of_ble_eq_true e; omega
    have e2:Nat.beq x.toNat y.toNat=false:=by
     cases e:Nat.beq x.toNat y.toNat with
     | false=>rfl
     | true=>have:=Nat.eq_of_beq_eq_true e; omega
    rw[e1,e2]
    simp only[Bool.false_or,Bool.false_and]
    symm
    rw[decide_eq_false_iff_not]
    have:(y.toNat - 48+1) * 10 ^ a.length≤(x.toNat - 48) * 10 ^ a.length:=Nat.mul_le_mul_right _ (by omega)
    rw[Nat.add_mul] at this
    omega
end
end Go.Proofs.YthodfojhbbendaaDoor
end
section
set_option linter.all false
set_option maxRecDepth 100000
set_option maxHeartbeats 4000000
namespace Go.Proofs.YthodfojhbbendaaDoor
open Go Go.Ev
noncomputable section
attribute [local congr] rL zU
mutual
def Ex.ok:Ex→Prop
 | .mk _ _ v kids _=>v.ok∧Jo kids
def Jo:List Ex→Prop
 | []=>True
 | e :: l=>e.ok∧Jo l
end
theorem GD:∀{l:List Ex} {j:Nat} (h:j<l.length),l[j].dp≤FA l∧l[j].wt≤F8 l∧(Jo l→l[j].ok)
 | e :: l, 0, h => by
   simp only[List.getElem_cons_zero,FA,F8,Jo]
   exact⟨Nat.le_max_left _ _,Nat.le_add_right _ _,fun h=>h.1⟩
 | e :: l, j + 1, h => by
   have hj:j<l.length:=by simp at h; omega
   have:=GD hj
   simp only[List.getElem_cons_succ,FA,F8,Jo]
   exact⟨Nat.le_trans this.1 (Nat.le_max_right _ _),Nat.le_trans this.2.1 (Nat.le_add_left _ _),fun h=>this.2.2 h.2⟩
theorem O8:∀ e:Ex,100≤e.wt
 | .mk _ _ _ _ _=>by simp only[Ex.wt]; omega
theorem G6:∀ l:List Ex,100 * l.length≤F8 l
 | []=>Nat.zero_le _
 | e :: l => by
   have:=G6 l
   have:=O8 e
   simp only[F8,List.length_cons]; omega
theorem Gl:∀{l:List (List UInt8)} {j:Nat} (h:j<l.length),l[j].length≤Cc l
 | e :: l,0,h=>by simp only[List.getElem_cons_zero,Cc]; omega
 | e :: l, j + 1, h => by
   have hj:j<l.length:=by simp at h; omega
   have:=Gl hj
   simp only[List.getElem_cons_succ,Cc]; omega
theorem RE.pM {e:Ex}{c:List AV}(h:RE e c):∃ kv nv,c=YthodfojhbbendaaDoor.pM e kv nv∧RX e kv nv:=by
 cases h with
 | mk h1 h2 h3 h4=>exact⟨_,_,rfl,RE.mk h1 h2 h3 h4⟩
theorem RX.inv {e:Ex}{kv nv:AV}(h:RX e kv nv):∃ kcs,Row 10 kv kcs∧Row 1 nv (e.names.map .str)∧BV e.kids kcs:=by
 unfold RX YthodfojhbbendaaDoor.pM at h
 cases h with
 | mk h1 h2 h3 h4=>exact⟨_,h1,h2,h3,h4⟩
def O7 (b:Bool)(l:List Ex)(ns:List (List UInt8))(i:Nat)(h:i<l.length):nI:=if b=true then(if h2:i<ns.length then .mk ([65,83,32] ++ ns[i]) [tE l[i]] else tE l[i]) else tE l[i]
theorem M4 {b:Bool}{l:List Ex}{ns:List (List UInt8)}{i:Nat}(h:i<l.length):GS b (l.drop i) (ns.drop i)=O7 b l ns i h :: GS b (l.drop (i+1)) (ns.drop (i+1)):=by
 by_cases h2:i<ns.length
 ·rw[List.drop_eq_getElem_cons h,List.drop_eq_getElem_cons h2]
  simp only[GS,O7,h2,dif_pos]
 ·have e1:ns.drop i=[]:=List.drop_eq_nil_of_le (by omega)
  have e2:ns.drop (i+1)=[]:=List.drop_eq_nil_of_le (by omega)
  rw[List.drop_eq_getElem_cons h,e1,e2]
  simp only[GS,O7,h2,dif_neg,not_false_eq_true]
  cases b <;> rfl
theorem LK {st:St}{kcs:List AV}{l:List Ex}(h:BV l kcs){i:Nat}(hi:i<l.length):∃ kv nv,loadAt C0.P st 32 (.rA (kcs.drop (i * 10)))=.some (.agg (pM l[i] kv nv))∧RX l[i] kv nv:=by
 obtain⟨kv,nv,e,hx⟩:=(h.2 i hi).pM
 refine⟨kv,nv,?_,hx⟩
 rw[EZ (n:=10) (by rw[List.length_drop,h.1]; omega),e]
theorem DZ {st:St}{l:List (List UInt8)}{i:Nat}(hi:i<l.length):loadAt C0.P st 9 (.rA ((l.map AV.str).drop (i * 1)))=.some (.str l[i]):=by
 rw[Nat.mul_one,List.drop_eq_getElem_cons (by simpa using hi),Dl,List.getElem_map]
def Fits (e:Ex)(k:Nat):Prop:=e.dp≤k∧e.wt≤10000000∧e.ok
def TS (R:xT)(k:Nat):Prop:=∀{e:Ex} {kv nv:AV} {st:St} {φ:List UInt8×AV×St→Prop},RX e kv nv→Old st→Fits e k→(∀ tv st1,sX (tE e) tv→KN st st1→φ ((tE e).s,tv,st1))→T φ (R.f19 e.k e.s e.v.k e.v.b e.v.n e.v.s .aB .aB kv nv st)
theorem Nn {R : xT} {k : Nat} (HR : TS R k) {e : Ex} {kv nv : AV} {b d : Nat} {st0 : St} {φ : AV × St → Prop} (hx : RX e kv nv) (hO : Old st0) (hb0 : b < st0.next) (hg : st0.aS.get b = .some (.cells 32 true (pM e kv nv)))
 (hdp:FA e.kids≤k) (hwt:e.wt≤10000000) (oW:Jo e.kids)
 (hφ:∀ st1 x F9,Sl st1 2 x F9→IX (GS (decide (e.k=8)) e.kids e.names) F9→KN st0 st1→φ (x,st1)):
 ∀ (r i : Nat) {st : St} {x : AV} {F9 : List AV} {acc : List nI}, i ≤ e.kids.length → e.kids.length - i < r → KN st0 st → Sl st 2 x F9 → IX acc F9 → acc.length = i → (∀ id, dO x id → st0.next ≤ id) → acc ++ GS (decide (e.k = 8)) (e.kids.drop i) (e.names.drop i) = GS (decide (e.k = 8)) e.kids e.names →
  T φ (eC R (.ref b 0) d r x (i:Int) st)
 | 0,i,_,_,_,_,_,hr,_,_,_,_,_,_=>by omega
 | r + 1, i, st, x, F9, acc, hi, hr, hK, hS, hT, ha, hf, hacc => by
   obtain⟨kcs,hrow,hnr,hks⟩:=hx.inv
   obtain⟨o1,o2⟩:=hx.one
   have wk:100 * e.kids.length+Cc e.names≤e.wt:=by
    have:=G6 e.kids
    obtain⟨ek,es,ev,el,en⟩:=e
    simp only[Ex.kids,Ex.names,Ex.wt] at *
    omega
   have gb:st.aS.get b=.some (.cells 32 true (pM e kv nv)):=by rw[hK.2.1 b hb0,hg]
   unfold pM at gb
   unfold eC
   have hlen:lenOf kv=.some e.kids.length:=by rw[s9 hrow (by decide),hks.1,Nat.mul_div_cancel _ (by decide)]
   repeat(refine T.step (by simp(disch:=(first | ((repeat(first | rw[aC] | rw[aE] | rw[List.length_cons] | rw[List.length_nil])) <;> omega) | (refine(?_:_∧True).1; constructor; simp only[aM, *]; exact True.intro))) only[bB,gb]; try exact rfl) ?_)
   refine T.step hlen ?_
   by_cases hlt:i<e.kids.length
   ·refine T.jC (by omega) ?_
    unfold iF
    obtain⟨kv1,nv1,hld,hx1⟩:=LK (st:=st) hks hlt
    have hkid:=GD hlt
    have wkid:e.kids[i].wt≤10000000:=by
     have:=hkid.2.1
     obtain⟨ek,es,ev,el,en⟩:=e
     simp only[Ex.kids,Ex.wt] at *
     omega
    refine T.bind ?_
    repeat(refine T.step (by simp(disch:=(first | ((repeat(first | rw[aC] | rw[aE] | rw[List.length_cons] | rw[List.length_nil])) <;> omega) | (refine(?_:_∧True).1; constructor; simp only[aM, *]; exact True.intro))) only[bB,gb,sO (P:=C0.P) (t:=30) (k:=.i64) hrow (show i * 10<kcs.length by rw[hks.1]; omega),hld,pM]; try exact rfl) ?_)
    refine T.bind (HR hx1 (hO.BP (KN.kp (p:=0) (q:=0) hK)) ⟨Nat.le_trans hkid.1 hdp,wkid,hkid.2.2 oW⟩ fun tv st1 ht k1=>?_)
    have ot:=ht.one
    have n_k1:=k1.le; (try simp only[aC,aE] at n_k1)
    have K1:=hK.trans k1
    have S1:=Sl.kn hS k1
    have hbn:=hK.1
    have hbl:b<st.next:=Nat.lt_of_lt_of_le hb0 hbn
    have g1:=(k1.2.1 b hbl).trans gb
    repeat(refine T.step (by simp(disch:=(first | ((repeat(first | rw[aC] | rw[aE] | rw[List.length_cons] | rw[List.length_nil])) <;> omega) | (refine(?_:_∧True).1; constructor; simp only[aM, *]; exact True.intro))) only[bB,g1]; try exact rfl) ?_)
    have hgo:∀{s2:St} {t:nI} {tv2:AV},KN st0 s2→Sl s2 2 x F9→s2.aS.get st1.next=.some (.cells 46 true [.str t.s,tv2])→sX t tv2→t=O7 (decide (e.k=8)) e.kids e.names i hlt →
     T (fun a=>T φ (match a with | (x1,s4)=>eC R (.ref b 0) d r x1 (IntKind.wrap .i64 ((i:Int)+1)) s4)) (Option.bind (loadAt C0.P s2 46 (.ref st1.next 0)) fun x4451=>Option.bind (dF x4451) fun o=>match o with | (s4452,x4453)=>Option.bind (eK (aU C0.P (C0.bU 19) 44 1 [(0,(.agg [(.str s4452),x4453]))]) s2) fun o=>match o with | (x4457,st4456)=>Option.bind (bW C0.P (C0.bU 19) st4456 #[44,44] x x4457) fun o=>match o with | (x4460,st4459)=>.some (x4460,st4459)):=by
     intro s2 t tv2 K2 S2 g2 ht2 e2
     have ot2:=ht2.one
     repeat(refine T.step (by simp(disch:=(first | ((repeat(first | rw[aC] | rw[aE] | rw[List.length_cons] | rw[List.length_nil])) <;> omega) | (refine(?_:_∧True).1; constructor; simp only[aM, *]; exact True.intro))) only[bB,g2]; try exact rfl) ?_)
     refine NR (t:=44) (v:=.agg [.str t.s,tv2]) K2 S2 hf rfl (u7 ht2) (by rw[hT.1,ha]; simp only[iT]; omega) (by decide) fun x' st6 K6 S6 hf6 hg6 hn6=>?_
     refine T.some ?_
     have e3:IntKind.wrap .i64 ((i:Int)+1)=((i+1:Nat):Int):=by rw[wrap64 (by omega) (by omega)]; omega
     simp only[e3]
     refine Nn HR hx hO hb0 hg hdp hwt oW hφ r (i+1) hlt (by omega) K6 S6 (hT.snoc ht2 rfl) (by rw[List.length_append,ha]; rfl) hf6 ?_
     rw[← hacc,M4 hlt,← e2,List.append_assoc]; rfl
    have S1':Sl ((st1.push (.cells 46 true [.str [],.aB])).put st1.next (.cells 46 true [.str (tE e.kids[i]).s,tv])) 2 x F9:=Sl.put (Sl.push S1 _) (fun h=>absurd (Sl.nV S1 h) (by omega))
    by_cases h8:e.k=8
    ·refine T.jC h8 ?_
     have hln:lenOf nv=.some e.names.length:=by rw[s9 hnr (by decide),List.length_map,Nat.div_one]
     repeat(refine T.step (by simp(disch:=(first | ((repeat(first | rw[aC] | rw[aE] | rw[List.length_cons] | rw[List.length_nil])) <;> omega) | (refine(?_:_∧True).1; constructor; simp only[aM, *]; exact True.intro))) only[bB,g1]; try exact rfl) ?_)
     refine T.step hln ?_
     by_cases hn:i<e.names.length
     ·refine T.jC (by omega) ?_
      unfold fR
      have hwn:(e.names[i]).length≤10000000:=by
       have:=Gl hn
       omega
      refine T.bind ?_
      repeat(refine T.step (by simp(disch:=(first | ((repeat(first | rw[aC] | rw[aE] | rw[List.length_cons] | rw[List.length_nil])) <;> omega) | (refine(?_:_∧True).1; constructor; simp only[aM, *]; exact True.intro))) only[bB,g1,sO (P:=C0.P) (t:=22) (k:=.i64) hnr (show i * 1<(e.names.map AV.str).length by rw[List.length_map]; omega),DZ hn]; try exact rfl) ?_)
      refine T.step (iB (by simp only[List.length_cons,List.length_nil]; omega)) ?_
      repeat(refine T.step (by simp(disch:=(first | ((repeat(first | rw[aC] | rw[aE] | rw[List.length_cons] | rw[List.length_nil])) <;> omega) | (refine(?_:_∧True).1; constructor; simp only[aM, *]; exact True.intro))) only[bB]; try exact rfl) ?_)
      refine T.step (tL (P:=C0.P) (t:=44) (v:=.agg [.str (tE e.kids[i]).s,tv]) _ rfl (u7 ht) (by decide)) ?_
      refine T.bind (B8 rfl fun st5 k5 hn5=>?_)
      have n_k5:=k5.le; (try simp only[aC,aE] at n_k5)
      have g5:st5.aS.get st1.next=.some (.cells 46 true [.str (tE e.kids[i]).s,tv]):=by simp(disch:=(first | ((repeat(first | rw[aC] | rw[aE] | rw[List.length_cons] | rw[List.length_nil])) <;> omega) | (refine(?_:_∧True).1; constructor; simp only[aM, *]; exact True.intro))) only[dH,k5.2.1]
      repeat(refine T.step (by simp(disch:=(first | ((repeat(first | rw[aC] | rw[aE] | rw[List.length_cons] | rw[List.length_nil])) <;> omega) | (refine(?_:_∧True).1; constructor; simp only[aM, *]; exact True.intro))) only[bB,g5]; try exact rfl) ?_)
      refine T.some ?_
      have K5:KN st0 st5:=(by repeat' (first | exact KN.trans (by repeat' (first | exact K1 | exact KN.refl | refine KN.eI ?_ | refine KN.loc ?_ ?_ | ((try simp only[aC,aE]) <;> omega))) k5 | refine KN.eI ?_ | refine KN.loc ?_ ?_ | ((try simp only[aC,aE]) <;> omega)))
      refine hgo (t:=.mk ([65,83,32] ++ e.names[i]) [tE e.kids[i]]) (by repeat' (first | exact K5 | exact KN.refl | refine KN.eI ?_ | refine KN.loc ?_ ?_ | ((try simp only[aC,aE]) <;> omega))) (Sl.put (Sl.kn (Sl.push S1' _) k5) (fun h=>absurd (Sl.nV S1 h) (by omega))) (zY rfl) (sX.un ht) ?_
      simp only[O7,h8,decide_true,if_true,hn,dif_pos]
     ·refine T.lG (by omega) ?_
      unfold dI
      refine T.step rfl ?_
      refine hgo (tv2:=tv) (by repeat' (first | exact K1 | exact KN.refl | refine KN.eI ?_ | refine KN.loc ?_ ?_ | ((try simp only[aC,aE]) <;> omega))) S1' (zY rfl) ht ?_
      simp only[O7,h8,decide_true,if_true,hn,dif_neg,not_false_eq_true]
    ·refine T.lG h8 ?_
     unfold dI
     refine T.step rfl ?_
     refine hgo (tv2:=tv) (by repeat' (first | exact K1 | exact KN.refl | refine KN.eI ?_ | refine KN.loc ?_ ?_ | ((try simp only[aC,aE]) <;> omega))) S1' (zY rfl) ht ?_
     simp only[O7,h8,decide_false,Bool.false_eq_true,if_false]
   ·refine T.lG (by omega) ?_
    have:i=e.kids.length:=by omega
    refine T.some (hφ _ _ _ hS ?_ hK)
    rw[← hacc,List.drop_eq_nil_of_le (by omega)]
    simpa[GS] using hT
theorem Lx {e:Ex}{kv nv:AV}{st:St}(hx:RX e kv nv):qP 32 (.agg [.int .i64 e.k,.str e.s,.int .i64 e.v.k,.bool e.v.b,.int .i64 e.v.n,.str e.v.s,.aB,.aB,kv,nv]) st=.some (.ref st.next 0,st.push (.cells 32 true (pM e kv nv))):=
 Nx rfl rfl hx.one.1 hx.one.2
theorem LR (e:Ex):tE e=if e.k=1 then BR e.v else if e.k=2 then .mk ([70,73,69,76,68,32] ++ e.s) [] else .mk (vM e.k e.s) (GS (decide (e.k=8)) e.kids e.names):=by
 cases e
 rw[tE]
 rfl
theorem Ng {R : xT} {k : Nat} (HR : TS R k) (hR : 1000000 < R.n) {e : Ex} {kv nv : AV} {st : St} {φ : List UInt8 × AV × St → Prop} (hx : RX e kv nv) (hO : Old st) (hF : Fits e (k + 1))
 (hφ:∀ tv st1,sX (tE e) tv→KN st st1→φ ((tE e).s,tv,st1)):T φ (jA R e.k e.s e.v.k e.v.b e.v.n e.v.s .aB .aB kv nv st):=by
 obtain⟨f1,f2,f3⟩:=hF
 obtain⟨o1,o2⟩:=hx.one
 have hd:FA e.kids≤k:=by
  obtain⟨ek,es,ev,el,en⟩:=e
  simp only[Ex.dp,Ex.kids] at *
  omega
 have hw:100 * e.kids.length≤e.wt∧e.s.length≤e.wt∧e.v.s.length≤e.wt:=by
  have:=G6 e.kids
  obtain⟨ek,es,ev,el,en⟩:=e
  simp only[Ex.kids,Ex.wt,Ex.s,Ex.v] at *
  omega
 have oW:e.v.ok∧Jo e.kids:=by
  obtain⟨ek,es,ev,el,en⟩:=e
  exact f3
 unfold jA
 refine T.step (Lx hx) ?_
 refine T.step (Lc _) ?_
 have K0:KN st (((st.push (.cells 32 true (pM e kv nv))).push (.cells 46 true [.str [],.aB])).push (.oE 0)):=(by repeat' (first | exact KN.refl | exact KN.refl | refine KN.eI ?_ | refine KN.loc ?_ ?_ | ((try simp only[aC,aE]) <;> omega)))
 have g0:(((st.push (.cells 32 true (pM e kv nv))).push (.cells 46 true [.str [],.aB])).push (.oE 0)).aS.get st.next=.some (.cells 32 true (pM e kv nv)):=by simp(disch:=(first | ((repeat(first | rw[aC] | rw[aE] | rw[List.length_cons] | rw[List.length_nil])) <;> omega) | (refine(?_:_∧True).1; constructor; simp only[aM, *]; exact True.intro))) only[dH]
 have g0r:(((st.push (.cells 32 true (pM e kv nv))).push (.cells 46 true [.str [],.aB])).push (.oE 0)).aS.get (st.next+1)=.some (.cells 46 true [.str [],.aB]):=by simp(disch:=(first | ((repeat(first | rw[aC] | rw[aE] | rw[List.length_cons] | rw[List.length_nil])) <;> omega) | (refine(?_:_∧True).1; constructor; simp only[aM, *]; exact True.intro))) only[dH]
 unfold jI
 refine T.bind (T.bind (Nn (st0:=(st.push (.cells 32 true (pM e kv nv))).push (.cells 46 true [.str [],.aB])) (b:=st.next) HR hx (hO.eq rfl) (by((try simp only[aC,aE]) <;> omega)) (by simp(disch:=(first | ((repeat(first | rw[aC] | rw[aE] | rw[List.length_cons] | rw[List.length_nil])) <;> omega) | (refine(?_:_∧True).1; constructor; simp only[aM, *]; exact True.intro))) only[dH]) hd f2 oW.2 (fun st1 x F9 S1 hT k1=>?_) R.n 0 (st:=((st.push (.cells 32 true (pM e kv nv))).push (.cells 46 true [.str [],.aB])).push (.oE 0)) (Nat.zero_le _) (by omega) (KN.eI KN.refl) (x:=.sl (st.next+2) 0 0 2 (.some 0) []) (F9:=[]) (acc:=[]) (.inr ⟨_,_,_,_,rfl,rfl,by((try simp only[aC,aE]) <;> omega),.inl rfl⟩) IX.nil rfl (fun id hi=>by rw[show id=st.next+2 from hi]; ((try simp only[aC,aE]) <;> omega)) rfl))
 refine T.some ?_
 have n_k1:=k1.le; (try simp only[aC,aE] at n_k1)
 have K1:KN st st1:=(by repeat' (first | exact KN.trans (by repeat' (first | exact KN.refl | exact KN.refl | refine KN.eI ?_ | refine KN.loc ?_ ?_ | ((try simp only[aC,aE]) <;> omega))) k1 | refine KN.eI ?_ | refine KN.loc ?_ ?_ | ((try simp only[aC,aE]) <;> omega)))
 have ox:=Sl.one S1
 have g1:st1.aS.get st.next=.some (.cells 32 true (pM e kv nv)):=by simp(disch:=(first | ((repeat(first | rw[aC] | rw[aE] | rw[List.length_cons] | rw[List.length_nil])) <;> omega) | (refine(?_:_∧True).1; constructor; simp only[aM, *]; exact True.intro))) only[dH,k1.2.1]
 have g1r:st1.aS.get (st.next+1)=.some (.cells 46 true [.str [],.aB]):=by simp(disch:=(first | ((repeat(first | rw[aC] | rw[aE] | rw[List.length_cons] | rw[List.length_nil])) <;> omega) | (refine(?_:_∧True).1; constructor; simp only[aM, *]; exact True.intro))) only[dH,k1.2.1]
 have hO1:=hO.BP (KN.kp (p:=0) (q:=0) K1)
 unfold pM at g1
 have hfin:∀{s:List UInt8} {l:List nI} {av:AV} {s1:St},KN st1 s1→sX (.mk s l) av→tE e=.mk s l →
  T φ (Option.bind (aV R.n s av s1) fun o=>match o with | (s4534,x4535,st4537)=>Option.bind (storeAt C0.P st4537 46 (.ref (st.push (.cells 32 true (pM e kv nv))).next 0) (.agg [(.str s4534),x4535])) fun st4539=>Option.bind (loadAt C0.P st4539 46 (.ref (st.push (.cells 32 true (pM e kv nv))).next 0)) fun x4541=>Option.bind (dF x4541) fun o=>match o with | (s4542,x4543)=>.some (s4542,x4543,st4539)):=by
  intro s l av s1 ks hr he
  have oa:=hr.one
  rw[he] at hφ
  refine T.bind (B8 oa fun st2 k2 hn=>?_)
  have n_ks:=ks.le; (try simp only[aC,aE] at n_ks); have n_k2:=k2.le; (try simp only[aC,aE] at n_k2)
  repeat(refine T.step (by simp(disch:=(first | ((repeat(first | rw[aC] | rw[aE] | rw[List.length_cons] | rw[List.length_nil])) <;> omega) | (refine(?_:_∧True).1; constructor; simp only[aM, *]; exact True.intro))) only[bB,k2.2.1,ks.2.1,g1r]; try exact rfl) ?_)
  exact T.some (hφ _ _ hr (by repeat' (first | exact KN.trans (by repeat' (first | exact K1 | exact KN.refl | refine KN.eI ?_ | refine KN.loc ?_ ?_ | ((try simp only[aC,aE]) <;> omega))) (ks.trans k2) | refine KN.eI ?_ | refine KN.loc ?_ ?_ | ((try simp only[aC,aE]) <;> omega))))
 repeat(refine T.step (by simp(disch:=(first | ((repeat(first | rw[aC] | rw[aE] | rw[List.length_cons] | rw[List.length_nil])) <;> omega) | (refine(?_:_∧True).1; constructor; simp only[aM, *]; exact True.intro))) only[bB,g1]; try exact rfl) ?_)
 by_cases h1:e.k=1
 ·refine T.jC h1 ?_
  repeat(refine T.step (by simp(disch:=(first | ((repeat(first | rw[aC] | rw[aE] | rw[List.length_cons] | rw[List.length_nil])) <;> omega) | (refine(?_:_∧True).1; constructor; simp only[aM, *]; exact True.intro))) only[bB,g1,Ko]; try exact rfl) ?_)
  refine T.bind (OM hO1 oW.1 (by omega) fun tv st2 ht k2=>?_)
  have ot:=ht.one
  have et:tE e=BR e.v:=by rw[LR,if_pos h1]
  rw[et] at hφ
  have n_k2:=k2.le; (try simp only[aC,aE] at n_k2)
  repeat(refine T.step (by simp(disch:=(first | ((repeat(first | rw[aC] | rw[aE] | rw[List.length_cons] | rw[List.length_nil])) <;> omega) | (refine(?_:_∧True).1; constructor; simp only[aM, *]; exact True.intro))) only[bB,k2.2.1,g1r]; try exact rfl) ?_)
  exact T.some (hφ _ _ ht (by repeat' (first | exact KN.trans (by repeat' (first | exact K1 | exact KN.refl | refine KN.eI ?_ | refine KN.loc ?_ ?_ | ((try simp only[aC,aE]) <;> omega))) k2 | refine KN.eI ?_ | refine KN.loc ?_ ?_ | ((try simp only[aC,aE]) <;> omega))))
 ·refine T.lG h1 ?_
  by_cases h2:e.k=2
  ·refine T.jC h2 ?_
   repeat(refine T.step (by simp(disch:=(first | ((repeat(first | rw[aC] | rw[aE] | rw[List.length_cons] | rw[List.length_nil])) <;> omega) | (refine(?_:_∧True).1; constructor; simp only[aM, *]; exact True.intro))) only[bB,g1]; try exact rfl) ?_)
   refine T.step (iB (by simp only[List.length_cons,List.length_nil]; omega)) ?_
   exact hfin KN.refl (sX.leaf _) (by rw[LR,if_neg h1,if_pos h2])
  ·refine T.lG h2 ?_
   have et:tE e=.mk (vM e.k e.s) (GS (decide (e.k=8)) e.kids e.names):=by rw[LR,if_neg h1,if_neg h2]
   by_cases h3:e.k=3
   ·refine T.jC h3 ?_
    exact hfin KN.refl (sX.mk hT S1.row) (by rw[et]; congr 1; unfold vM; rw[if_pos h3])
   ·refine T.lG h3 ?_
    by_cases h4:e.k=4
    ·refine T.jC h4 ?_
     exact hfin KN.refl (sX.mk hT S1.row) (by rw[et]; congr 1; unfold vM; rw[if_neg h3,if_pos h4])
    ·refine T.lG h4 ?_
     by_cases h5:e.k=5
     ·refine T.jC h5 ?_
      exact hfin KN.refl (sX.mk hT S1.row) (by rw[et]; congr 1; unfold vM; rw[if_neg h3,if_neg h4,if_pos h5])
     ·refine T.lG h5 ?_
      by_cases h6:e.k=6
      ·refine T.jC h6 ?_
       repeat(refine T.step (by simp(disch:=(first | ((repeat(first | rw[aC] | rw[aE] | rw[List.length_cons] | rw[List.length_nil])) <;> omega) | (refine(?_:_∧True).1; constructor; simp only[aM, *]; exact True.intro))) only[bB,g1]; try exact rfl) ?_)
       exact hfin KN.refl (sX.mk hT S1.row) (by rw[et]; congr 1; unfold vM; rw[if_neg h3,if_neg h4,if_neg h5,if_pos h6])
      ·refine T.lG h6 ?_
       by_cases h7:e.k=7
       ·refine T.jC h7 ?_
        exact hfin KN.refl (sX.mk hT S1.row) (by rw[et]; congr 1; unfold vM; rw[if_neg h3,if_neg h4,if_neg h5,if_neg h6,if_pos h7])
       ·refine T.lG h7 ?_
        exact hfin KN.refl (sX.mk hT S1.row) (by rw[et]; congr 1; unfold vM; rw[if_neg h3,if_neg h4,if_neg h5,if_neg h6,if_neg h7])
theorem Cv (n:Nat)(hn:1000000<n):∀ k,TS (MD n k) k
 | 0 => by
   intro hx hO hF hφ
   rename_i e _ _ _ _
   obtain⟨ek,es,ev,el,en⟩:=e
   have:=hF.1
   simp only[Ex.dp] at this
   omega
 | k+1=>fun hx hO hF hφ=>Ng (Cv n hn k) (by rw[Fz]; exact hn) hx hO hF hφ
theorem Gq {n:Nat}(hn:1000000<n){e:Ex}{kv nv:AV}{st:St}{φ:List UInt8×AV×St→Prop}(hx:RX e kv nv)(hO:Old st)(hF:Fits e 3999)
 (hφ:∀ tv st1,sX (tE e) tv→KN st st1→φ ((tE e).s,tv,st1)):T φ (iQ n e.k e.s e.v.k e.v.b e.v.n e.v.s .aB .aB kv nv st):=
 Ng (Cv n hn 4000) (by rw[Fz]; exact hn) hx hO ⟨by have:=hF.1; omega,hF.2⟩ hφ
end
end Go.Proofs.YthodfojhbbendaaDoor
end
section
set_option linter.all false
set_option maxRecDepth 100000
set_option maxHeartbeats 4000000
namespace Go.Proofs.YthodfojhbbendaaDoor
open Go Go.Ev
noncomputable section
attribute [local congr] rL zU
def tW (w:Ex):List nI:=if w.k=0 then [] else [.mk [87,72,69,82,69] [tE w]]
def y8:List (List UInt8)→List Ex→List nI
 | n :: ns,e :: es=>.mk ([65,83,32] ++ n) [tE e] :: y8 ns es
 | _,_=>[]
def opt (b:Bool)(t:nI):List nI:=if b=true then [t] else []
def tS (m:Sm):nI:=
 if m.k=1 then .mk ([84,65,66,76,69,32] ++ m.t) []
 else if m.k=2 then .mk ((([73,78,68,69,88,32] ++ m.t) ++ [32]) ++ m.f) []
 else if m.k=3 then .mk ([73,78,83,69,82,84,32] ++ m.t) [tE m.v]
 else if m.k=4 then .mk ([85,80,68,65,84,69,32] ++ m.t) (y8 m.names m.exprs ++ tW m.w)
 else if m.k=5 then .mk ([68,69,76,69,84,69,32] ++ m.t) (tW m.w)
 else .mk ([83,69,76,69,67,84,32] ++ m.t) ((((((m.nG.map (fun c=>.mk ([67,79,76,32] ++ c) [])) ++ opt m.c (.mk [67,79,85,78,84] [])) ++ opt m.h (.mk [72,73,83,84,79,82,89] [])) ++ tW m.w) ++ (if m.o=[] then [] else [.mk ([79,82,68,69,82,32] ++ m.o) []])) ++ opt m.d (.mk [68,69,83,67] []) ++ (if m.l≥0 then [.mk ([76,73,77,73,84,32] ++ Go.Lib.itoa m.l) []] else []))
def Rw (st0 st:St)(x:AV)(l:List nI):Prop:=∃ F9,Sl st 2 x F9∧IX l F9∧(∀ id,dO x id→st0.next≤id)∧KN st0 st
theorem Rw.kn {st0 st st1:St}{x:AV}{l:List nI}(h:Rw st0 st x l)(k:KN st st1):Rw st0 st1 x l:=by
 obtain⟨F9,h1,h2,h3,h4⟩:=h
 exact⟨F9,Sl.kn h1 k,h2,h3,h4.trans k⟩
theorem Rw.k {st0 st:St}{x:AV}{l:List nI}(h:Rw st0 st x l):KN st0 st:=by
 obtain⟨F9,h1,h2,h3,h4⟩:=h
 exact h4
theorem Rw.row {st0 st:St}{x:AV}{l:List nI}{s:List UInt8}(h:Rw st0 st x l):sX (.mk s l) x:=by
 obtain⟨F9,h1,h2,h3,h4⟩:=h
 exact sX.mk h2 h1.row
theorem PM {st0 st:St}{x tv:AV}{l:List nI}{t:nI}{β:Type}{φ:β→Prop}{k:AV×St→Option β}(h:Rw st0 st x l)(ht:sX t tv)(hl:l.length≤3000000)
 (hk:∀ x' st1,Rw st0 st1 x' (l ++ [t])→T φ (k (x',st1))):
 T φ (Option.bind (eK (aU C0.P false 44 1 [(0,.agg [.str t.s,tv])]) st) fun o=>match o with | (x1,st1)=>Option.bind (bW C0.P false st1 #[44,44] x x1) k):=by
 obtain⟨F9,h1,h2,h3,h4⟩:=h
 exact NR (t:=44) (v:=.agg [.str t.s,tv]) h4 h1 h3 rfl (u7 ht) (by rw[h2.1]; simp only[iT]; omega) (by decide) fun x' st1 K S hf _ _=>hk x' st1 ⟨_,S,h2.snoc ht rfl,hf,K⟩
theorem Aa {R:Nat}{st0 st:St}{x:AV}{l:List nI}{s:List UInt8}{φ:AV×St→Prop}(h:Rw st0 st x l)(hl:l.length≤3000000)(hk:∀ x' st1,Rw st0 st1 x' (l ++ [.mk s []])→φ (x',st1)):
 T φ (Option.bind (aV R s AV.aB st) fun o=>match o with | (s5266,x5267,st5269)=>Option.bind (eK (aU C0.P (C0.bU 12) 44 1 [(0,(.agg [(.str s5266),x5267]))]) st5269) fun o=>match o with | (x5272,st5271)=>Option.bind (bW C0.P (C0.bU 12) st5271 #[44,44] x x5272) fun o=>match o with | (x5275,st5274)=>.some (x5275,st5274)):=by
 refine T.bind (B8 rfl fun st1 k hn=>?_)
 exact PM (t:=.mk s []) (h.kn k) (sX.leaf s) hl fun x' st2 h2=>T.some (hk _ _ h2)
theorem GB {b:Bool}{t:nI}{l:List nI}(h:¬ b=true):l ++ opt b t=l:=by unfold opt; rw[if_neg h,List.append_nil]
theorem GQ {b:Bool}{t:nI}{l:List nI}(h:b=true):l ++ opt b t=l ++ [t]:=by unfold opt; rw[if_pos h]
theorem PD {R:Nat}{bx x:AV}{d:Nat}{b:Bool}{st0 st:St}{l:List nI}{φ:AV×St→Prop}(h:Rw st0 st x l)(hl:l.length≤3000000)(hk:∀ x' st1,Rw st0 st1 x' (l ++ opt b (.mk [67,79,85,78,84] []))→φ (x',st1)):T φ (fY R bx d x b st):=by
 unfold fY
 by_cases hb:b=true
 ·exact T.jC hb (Aa h hl fun x' st1 h1=>hk _ _ (by rw[GQ hb]; exact h1))
 ·exact T.lG hb (T.some (hk _ _ (by rw[GB hb]; exact h)))
theorem P6 {R:Nat}{bx x:AV}{d:Nat}{b:Bool}{st0 st:St}{l:List nI}{φ:AV×St→Prop}(h:Rw st0 st x l)(hl:l.length≤3000000)(hk:∀ x' st1,Rw st0 st1 x' (l ++ opt b (.mk [72,73,83,84,79,82,89] []))→φ (x',st1)):T φ (fQ R bx d x b st):=by
 unfold fQ
 by_cases hb:b=true
 ·exact T.jC hb (Aa h hl fun x' st1 h1=>hk _ _ (by rw[GQ hb]; exact h1))
 ·exact T.lG hb (T.some (hk _ _ (by rw[GB hb]; exact h)))
theorem PE {R:Nat}{bx x:AV}{d:Nat}{b:Bool}{st0 st:St}{l:List nI}{φ:AV×St→Prop}(h:Rw st0 st x l)(hl:l.length≤3000000)(hk:∀ x' st1,Rw st0 st1 x' (l ++ opt b (.mk [68,69,83,67] []))→φ (x',st1)):T φ (dG R bx d x b st):=by
 unfold dG
 by_cases hb:b=true
 ·exact T.jC hb (Aa h hl fun x' st1 h1=>hk _ _ (by rw[GQ hb]; exact h1))
 ·exact T.lG hb (T.some (hk _ _ (by rw[GB hb]; exact h)))
def WR (w:Ex)(xw:AV):Prop:=(w.k=0∧xw=.aB)∨(w.k≠0∧ ∃ id tv,sX (.mk [87,72,69,82,69] [tE w]) tv∧xw=.sl id 2 1 2 (.some 1) [.str [87,72,69,82,69],tv])
theorem WR.row {w:Ex}{xw:AV}{s:List UInt8}(h:WR w xw):sX (.mk s (tW w)) xw:=by
 rcases h with⟨h0,rfl⟩ | ⟨h0,id,tv,ht,rfl⟩
 ·rw[tW,if_pos h0]; exact sX.leaf s
 ·rw[tW,if_neg h0]; exact sX.un ht
theorem ES {R:Nat}(hn:1000000<R){e:Ex}{kv nv:AV}{st:St}{φ:AV×St→Prop}(hx:RX e kv nv)(hO:Old st)(hF:Fits e 3999)
 (hφ:∀ xw st1,WR e xw→KN st st1→φ (xw,st1)):T φ (gM R e.k e.s e.v.k e.v.b e.v.n e.v.s .aB .aB kv nv st):=by
 obtain⟨o1,o2⟩:=hx.one
 unfold gM
 refine T.step (Lx hx) ?_
 have g0:(st.push (.cells 32 true (pM e kv nv))).aS.get st.next=.some (.cells 32 true (pM e kv nv)):=by simp(disch:=(first | ((repeat(first | rw[aC] | rw[aE] | rw[List.length_cons] | rw[List.length_nil])) <;> omega) | (refine(?_:_∧True).1; constructor; simp only[aM, *]; exact True.intro))) only[dH]
 unfold pM at g0
 repeat(refine T.step (by simp(disch:=(first | ((repeat(first | rw[aC] | rw[aE] | rw[List.length_cons] | rw[List.length_nil])) <;> omega) | (refine(?_:_∧True).1; constructor; simp only[aM, *]; exact True.intro))) only[bB,g0,pM]; try exact rfl) ?_)
 by_cases h0:e.k=0
 ·refine T.jC h0 ?_
  exact T.some (hφ _ _ (.inl ⟨h0,rfl⟩) KN.refl.eI)
 ·refine T.lG h0 ?_
  repeat(refine T.step (by simp(disch:=(first | ((repeat(first | rw[aC] | rw[aE] | rw[List.length_cons] | rw[List.length_nil])) <;> omega) | (refine(?_:_∧True).1; constructor; simp only[aM, *]; exact True.intro))) only[bB,g0,pM]; try exact rfl) ?_)
  refine T.bind (Gq hn hx (hO.eq rfl) hF fun tv st1 ht k1=>?_)
  refine T.step (tL (P:=C0.P) (t:=44) (v:=.agg [.str (tE e).s,tv]) _ rfl (u7 ht) (by decide)) ?_
  refine T.bind (B8 rfl fun st2 k2 hn2=>?_)
  have ht2:sX (.mk [87,72,69,82,69] [tE e]) (.sl st1.next 2 1 2 (.some 1) [.str (tE e).s,tv]):=sX.un ht
  refine T.step (tL (P:=C0.P) (t:=44) (v:=.agg [.str [87,72,69,82,69],.sl st1.next 2 1 2 (.some 1) [.str (tE e).s,tv]]) _ rfl (u7 ht2) (by decide)) ?_
  exact T.some (hφ _ _ (.inr ⟨h0,_,_,ht2,rfl⟩) (KN.eI (KN.trans (KN.trans KN.refl.eI (k1.eI)) k2)))
theorem Pt {st:St}{sz:Nat}{x:AV}{cs:List AV}(h:Sl st 2 x cs):bW C0.P false st #[44,44] x .aB=.some (x,st):=by
 rcases h with⟨rfl,_⟩ | ⟨id,e,len,cap,rfl,_⟩ <;> kernel_rfl
theorem PJ {st0 st:St}{x xw:AV}{l:List nI}{w:Ex}{β:Type}{φ:β→Prop}{k:AV×St→Option β}(h:Rw st0 st x l)(hw:WR w xw)(hl:l.length≤3000000)
 (hk:∀ x' st1,Rw st0 st1 x' (l ++ tW w)→T φ (k (x',st1))):T φ (Option.bind (bW C0.P false st #[44,44] x xw) k):=by
 obtain⟨F9,h1,h2,h3,h4⟩:=h
 rcases hw with⟨h0,rfl⟩ | ⟨h0,id,tv,ht,rfl⟩
 ·refine T.step (Pt (sz:=0) h1) (hk _ _ ?_)
  rw[tW,if_pos h0,List.append_nil]
  exact⟨F9,h1,h2,h3,h4⟩
 ·obtain⟨x',st1,e,hS,hKe,hF,hO⟩:=HW (P:=C0.P) (t:=44) (j:=id) (e':=2) (c':=.some 1) (new:=[.str [87,72,69,82,69],tv]) h1 rfl (u7 (t:=.mk [87,72,69,82,69] [tE w]) ht) (by rw[h2.1]; simp only[iT]; omega)
  refine T.step e (hk _ _ ?_)
  rw[tW,if_neg h0]
  exact⟨_,hS,h2.snoc ht rfl,fun id hi=>(hF id hi).elim (h3 id) (fun h=>Nat.le_trans h4.1 h),h4.keeps hKe hO h3⟩
end
end Go.Proofs.YthodfojhbbendaaDoor
end
section
set_option linter.all false
set_option maxRecDepth 100000
set_option maxHeartbeats 4000000
namespace Go.Proofs.YthodfojhbbendaaDoor
open Go Go.Ev
noncomputable section
attribute [local congr] rL zU
structure FZ (m:Sm):Prop where
 v:Fits m.v 3999
 w:Fits m.w 3999
 t:m.t.length≤10000000
 f:m.f.length≤10000000
 o:m.o.length≤10000000
 nl:m.names.length≤1000000
 ns:∀ n ∈ m.names,n.length≤10000000
 es:∀ e ∈ m.exprs,Fits e 3999
 cl:m.nG.length≤1000000
 cs:∀ n ∈ m.nG,n.length≤10000000
 l:m.l≤9223372036854775807
structure Py (m:Sm)(vk vn nv ev wk wn cv:AV):Prop where
 vk:vk.one=true
 vn:vn.one=true
 nv:nv.one=true
 ev:ev.one=true
 wk:wk.one=true
 wn:wn.one=true
 cv:cv.one=true
theorem RS.IP {m:Sm}{vk vn nv ev wk wn cv:AV}(h:RS m vk vn nv ev wk wn cv):Py m vk vn nv ev wk wn cv:=by
 obtain⟨kcs,h1,h2⟩:=h.exprs
 exact⟨h.v.one.1,h.v.one.2,Row.one h.names,Row.one h1,h.w.one.1,h.w.one.2,Row.one h.nG⟩
theorem Kh {ns:List (List UInt8)}{es:List Ex}{i:Nat}(h1:i<ns.length)(h2:i<es.length):y8 (ns.drop i) (es.drop i)=.mk ([65,83,32] ++ ns[i]) [tE es[i]] :: y8 (ns.drop (i+1)) (es.drop (i+1)):=by
 rw[List.drop_eq_getElem_cons h1,List.drop_eq_getElem_cons h2]; rfl
theorem Lu {R : Nat} (hn : 1000000 < R) {{m : Sm}} {{vk vn nv ev wk wn cv : AV}} {{b d : Nat}} {{st0 : St}} {φ : AV × St → Prop} (hm : RS m vk vn nv ev wk wn cv) (hO : Old st0) (hb0 : b < st0.next) (hg : st0.aS.get b = .some (.cells 34 true [.int .i64 m.k, .str m.t, .str m.f, .int .i64 m.v.k, .str m.v.s, .int .i64 m.v.v.k, .bool m.v.v.b, .int .i64 m.v.v.n, .str m.v.v.s, .aB, .aB, vk, vn, nv, ev, .int .i64 m.w.k, .str m.w.s, .int .i64 m.w.v.k, .bool m.w.v.b, .int .i64 m.w.v.n, .str m.w.v.s, .aB, .aB, wk, wn, cv, .bool m.c, .bool m.h, .str m.o, .bool m.d, .int .i64 m.l])) (hF : FZ m)
 (hφ:∀ st1 x,Rw st0 st1 x (y8 m.names m.exprs)→φ (x,st1)):
 ∀ (r i : Nat) {st : St} {x : AV} {acc : List nI}, i ≤ m.names.length → m.names.length - i < r → Rw st0 st x acc → acc.length = i → acc ++ y8 (m.names.drop i) (m.exprs.drop i) = y8 m.names m.exprs →
  T φ (dB R (.ref b 0) d r x (i:Int) st)
 | 0,i,_,_,_,_,hr,_,_,_=>by omega
 | r + 1, i, st, x, acc, hi, hr, h, ha, hacc => by
   obtain⟨kcs,hrow,hks⟩:=hm.exprs
   have hnr:=hm.names
   have ho:=hm.IP
   have gb:st.aS.get b=.some (.cells 34 true [.int .i64 m.k,.str m.t,.str m.f,.int .i64 m.v.k,.str m.v.s,.int .i64 m.v.v.k,.bool m.v.v.b,.int .i64 m.v.v.n,.str m.v.v.s,.aB,.aB,vk,vn,nv,ev,.int .i64 m.w.k,.str m.w.s,.int .i64 m.w.v.k,.bool m.w.v.b,.int .i64 m.w.v.n,.str m.w.v.s,.aB,.aB,wk,wn,cv,.bool m.c,.bool m.h,.str m.o,.bool m.d,.int .i64 m.l]):=by rw[h.k.2.1 b hb0,hg]
   have nl:=hF.nl
   unfold dB
   have hln:lenOf nv=.some m.names.length:=by rw[s9 hnr (by decide),List.length_map,Nat.div_one]
   have hle:lenOf ev=.some m.exprs.length:=by rw[s9 hrow (by decide),hks.1,Nat.mul_div_cancel _ (by decide)]
   repeat(refine T.step (by simp(disch:=(first | ((repeat(first | rw[aC] | rw[aE] | rw[List.length_cons] | rw[List.length_nil])) <;> omega) | (refine(?_:_∧True).1; constructor; simp only[aM, *]; exact True.intro))) only[bB,gb]; try exact rfl) ?_)
   refine T.step hln ?_
   by_cases h1:i<m.names.length
   ·refine T.jC (by omega) ?_
    repeat(refine T.step (by simp(disch:=(first | ((repeat(first | rw[aC] | rw[aE] | rw[List.length_cons] | rw[List.length_nil])) <;> omega) | (refine(?_:_∧True).1; constructor; simp only[aM, *]; exact True.intro))) only[bB,gb]; try exact rfl) ?_)
    refine T.step hle ?_
    by_cases h2:i<m.exprs.length
    ·refine T.jC (by omega) ?_
     unfold eF
     obtain⟨kv1,nv1,hld,hx1⟩:=LK (st:=st) hks h2
     have hwn:=hF.ns _ (List.getElem_mem h1)
     refine T.bind ?_
     repeat(refine T.step (by simp(disch:=(first | ((repeat(first | rw[aC] | rw[aE] | rw[List.length_cons] | rw[List.length_nil])) <;> omega) | (refine(?_:_∧True).1; constructor; simp only[aM, *]; exact True.intro))) only[bB,gb,sO (P:=C0.P) (t:=22) (k:=.i64) hnr (show i * 1<(m.names.map AV.str).length by rw[List.length_map]; omega),DZ h1]; try exact rfl) ?_)
     refine T.step (iB (by simp only[List.length_cons,List.length_nil]; omega)) ?_
     repeat(refine T.step (by simp(disch:=(first | ((repeat(first | rw[aC] | rw[aE] | rw[List.length_cons] | rw[List.length_nil])) <;> omega) | (refine(?_:_∧True).1; constructor; simp only[aM, *]; exact True.intro))) only[bB,gb,sO (P:=C0.P) (t:=30) (k:=.i64) hrow (show i * 10<kcs.length by rw[hks.1]; omega),hld,pM]; try exact rfl) ?_)
     refine T.bind (Gq hn hx1 (hO.BP (KN.kp (p:=0) (q:=0) h.k)) (hF.es _ (List.getElem_mem h2)) fun tv st1 ht k1=>?_)
     have g1:st1.aS.get b=.some (.cells 34 true [.int .i64 m.k,.str m.t,.str m.f,.int .i64 m.v.k,.str m.v.s,.int .i64 m.v.v.k,.bool m.v.v.b,.int .i64 m.v.v.n,.str m.v.v.s,.aB,.aB,vk,vn,nv,ev,.int .i64 m.w.k,.str m.w.s,.int .i64 m.w.v.k,.bool m.w.v.b,.int .i64 m.w.v.n,.str m.w.v.s,.aB,.aB,wk,wn,cv,.bool m.c,.bool m.h,.str m.o,.bool m.d,.int .i64 m.l]):=(k1.2.1 b (Nat.lt_of_lt_of_le hb0 h.k.1)).trans gb
     refine T.step (DZ h1) ?_
     refine T.jC (tR _) ?_
     repeat(refine T.step (by simp(disch:=(first | ((repeat(first | rw[aC] | rw[aE] | rw[List.length_cons] | rw[List.length_nil])) <;> omega) | (refine(?_:_∧True).1; constructor; simp only[aM, *]; exact True.intro))) only[bB,g1]; try exact rfl) ?_)
     refine T.jC (qZ hnr) ?_
     refine T.step (tL (P:=C0.P) (t:=44) (v:=.agg [.str (tE m.exprs[i]).s,tv]) _ rfl (u7 ht) (by decide)) ?_
     refine T.bind (B8 rfl fun st2 k2 hn2=>?_)
     have K2:KN st st2:=KN.trans (KN.eI k1) k2
     refine PM (t:=.mk ([65,83,32] ++ m.names[i]) [tE m.exprs[i]]) (h.kn K2) (sX.un ht) (by omega) fun x' st3 h3=>T.some ?_
     have e3:IntKind.wrap .i64 ((i:Int)+1)=((i+1:Nat):Int):=by rw[wrap64 (by omega) (by omega)]; omega
     simp only[e3]
     refine Lu hn hm hO hb0 hg hF hφ r (i+1) h1 (by omega) h3 (by rw[List.length_append,ha]; rfl) ?_
     rw[← hacc,Kh h1 h2,List.append_assoc]; rfl
    ·refine T.lG (by omega) ?_
     refine T.some (hφ _ _ ?_)
     rw[← hacc,List.drop_eq_nil_of_le (show m.exprs.length≤i by omega)]
     have:y8 (m.names.drop i) []=[]:=by cases m.names.drop i <;> rfl
     rw[this,List.append_nil]; exact h
   ·refine T.lG (by omega) ?_
    refine T.some (hφ _ _ ?_)
    rw[← hacc,List.drop_eq_nil_of_le (show m.names.length≤i by omega)]
    simpa[y8] using h
def Gx (c:List UInt8):nI:=.mk ([67,79,76,32] ++ c) []
theorem Jw {R:Nat}{{m:Sm}}{{vk vn nv ev wk wn cv:AV}}{{b d:Nat}}{{st0:St}}{φ:AV×St→Prop}(hm:RS m vk vn nv ev wk wn cv)(hb0:b<st0.next)(hg:st0.aS.get b=.some (.cells 34 true [.int .i64 m.k,.str m.t,.str m.f,.int .i64 m.v.k,.str m.v.s,.int .i64 m.v.v.k,.bool m.v.v.b,.int .i64 m.v.v.n,.str m.v.v.s,.aB,.aB,vk,vn,nv,ev,.int .i64 m.w.k,.str m.w.s,.int .i64 m.w.v.k,.bool m.w.v.b,.int .i64 m.w.v.n,.str m.w.v.s,.aB,.aB,wk,wn,cv,.bool m.c,.bool m.h,.str m.o,.bool m.d,.int .i64 m.l]))(hF:FZ m)
 (hφ:∀ st1 x,Rw st0 st1 x (m.nG.map Gx)→φ (x,st1)):
 ∀ (r i : Nat) {st : St} {x : AV} {acc : List nI}, i ≤ m.nG.length → m.nG.length - i < r → Rw st0 st x acc → acc.length = i → acc ++ (m.nG.drop i).map Gx = m.nG.map Gx →
  T φ (eQ R (.ref b 0) d r x (i:Int) st)
 | 0,i,_,_,_,_,hr,_,_,_=>by omega
 | r + 1, i, st, x, acc, hi, hr, h, ha, hacc => by
   have hnr:=hm.nG
   have ho:=hm.IP
   have gb:st.aS.get b=.some (.cells 34 true [.int .i64 m.k,.str m.t,.str m.f,.int .i64 m.v.k,.str m.v.s,.int .i64 m.v.v.k,.bool m.v.v.b,.int .i64 m.v.v.n,.str m.v.v.s,.aB,.aB,vk,vn,nv,ev,.int .i64 m.w.k,.str m.w.s,.int .i64 m.w.v.k,.bool m.w.v.b,.int .i64 m.w.v.n,.str m.w.v.s,.aB,.aB,wk,wn,cv,.bool m.c,.bool m.h,.str m.o,.bool m.d,.int .i64 m.l]):=by rw[h.k.2.1 b hb0,hg]
   have nl:=hF.cl
   unfold eQ
   have hln:lenOf cv=.some m.nG.length:=by rw[s9 hnr (by decide),List.length_map,Nat.div_one]
   repeat(refine T.step (by simp(disch:=(first | ((repeat(first | rw[aC] | rw[aE] | rw[List.length_cons] | rw[List.length_nil])) <;> omega) | (refine(?_:_∧True).1; constructor; simp only[aM, *]; exact True.intro))) only[bB,gb]; try exact rfl) ?_)
   refine T.step hln ?_
   by_cases h1:i<m.nG.length
   ·refine T.jC (by omega) ?_
    unfold gW
    have hwn:=hF.cs _ (List.getElem_mem h1)
    refine T.bind ?_
    repeat(refine T.step (by simp(disch:=(first | ((repeat(first | rw[aC] | rw[aE] | rw[List.length_cons] | rw[List.length_nil])) <;> omega) | (refine(?_:_∧True).1; constructor; simp only[aM, *]; exact True.intro))) only[bB,gb,sO (P:=C0.P) (t:=22) (k:=.i64) hnr (show i * 1<(m.nG.map AV.str).length by rw[List.length_map]; omega),DZ h1]; try exact rfl) ?_)
    refine T.step (iB (by simp only[List.length_cons,List.length_nil]; omega)) ?_
    refine Aa h (by omega) fun x' st3 h3=>?_
    have e3:IntKind.wrap .i64 ((i:Int)+1)=((i+1:Nat):Int):=by rw[wrap64 (by omega) (by omega)]; omega
    simp only[e3]
    refine Jw hm hb0 hg hF hφ r (i+1) h1 (by omega) h3 (by rw[List.length_append,ha]; rfl) ?_
    rw[← hacc,List.drop_eq_getElem_cons h1,List.append_assoc]; rfl
   ·refine T.lG (by omega) ?_
    refine T.some (hφ _ _ ?_)
    rw[← hacc,List.drop_eq_nil_of_le (show m.nG.length≤i by omega)]
    simpa using h
theorem Ox {R:Nat}{{m:Sm}}{{vk vn nv ev wk wn cv:AV}}{{b d:Nat}}{{st0:St}}{st:St}{x:AV}{l:List nI}{φ:AV×St→Prop}(hb0:b<st0.next)(hg:st0.aS.get b=.some (.cells 34 true [.int .i64 m.k,.str m.t,.str m.f,.int .i64 m.v.k,.str m.v.s,.int .i64 m.v.v.k,.bool m.v.v.b,.int .i64 m.v.v.n,.str m.v.v.s,.aB,.aB,vk,vn,nv,ev,.int .i64 m.w.k,.str m.w.s,.int .i64 m.w.v.k,.bool m.w.v.b,.int .i64 m.w.v.n,.str m.w.v.s,.aB,.aB,wk,wn,cv,.bool m.c,.bool m.h,.str m.o,.bool m.d,.int .i64 m.l]))(hF:FZ m)(h:Rw st0 st x l)(hl:l.length≤3000000)
 (hk:∀ x' st1,Rw st0 st1 x' (l ++ [.mk ([79,82,68,69,82,32] ++ m.o) []])→φ (x',st1)):T φ (eN R (.ref b 0) d x st):=by
 have gb:st.aS.get b=.some (.cells 34 true [.int .i64 m.k,.str m.t,.str m.f,.int .i64 m.v.k,.str m.v.s,.int .i64 m.v.v.k,.bool m.v.v.b,.int .i64 m.v.v.n,.str m.v.v.s,.aB,.aB,vk,vn,nv,ev,.int .i64 m.w.k,.str m.w.s,.int .i64 m.w.v.k,.bool m.w.v.b,.int .i64 m.w.v.n,.str m.w.v.s,.aB,.aB,wk,wn,cv,.bool m.c,.bool m.h,.str m.o,.bool m.d,.int .i64 m.l]):=by rw[h.k.2.1 b hb0,hg]
 have:=hF.o
 unfold eN
 repeat(refine T.step (by simp(disch:=(first | ((repeat(first | rw[aC] | rw[aE] | rw[List.length_cons] | rw[List.length_nil])) <;> omega) | (refine(?_:_∧True).1; constructor; simp only[aM, *]; exact True.intro))) only[bB,gb]; try exact rfl) ?_)
 refine T.step (iB (by simp only[List.length_cons,List.length_nil]; omega)) ?_
 exact Aa h hl fun x' st1 h1=>hk _ _ h1
theorem PA {R:Nat}{{m:Sm}}{{vk vn nv ev wk wn cv:AV}}{{b d:Nat}}{{st0:St}}{st:St}{x:AV}{l:List nI}{φ:AV×St→Prop}(hO:Old st0)(hb0:b<st0.next)(hg:st0.aS.get b=.some (.cells 34 true [.int .i64 m.k,.str m.t,.str m.f,.int .i64 m.v.k,.str m.v.s,.int .i64 m.v.v.k,.bool m.v.v.b,.int .i64 m.v.v.n,.str m.v.v.s,.aB,.aB,vk,vn,nv,ev,.int .i64 m.w.k,.str m.w.s,.int .i64 m.w.v.k,.bool m.w.v.b,.int .i64 m.w.v.n,.str m.w.v.s,.aB,.aB,wk,wn,cv,.bool m.c,.bool m.h,.str m.o,.bool m.d,.int .i64 m.l]))(hF:FZ m)(h:Rw st0 st x l)(hl:l.length≤3000000)(h0:m.l≥0)
 (hk:∀ x' st1,Rw st0 st1 x' (l ++ [.mk ([76,73,77,73,84,32] ++ Go.Lib.itoa m.l) []])→φ (x',st1)):T φ (dD R (.ref b 0) d x st):=by
 have gb:st.aS.get b=.some (.cells 34 true [.int .i64 m.k,.str m.t,.str m.f,.int .i64 m.v.k,.str m.v.s,.int .i64 m.v.v.k,.bool m.v.v.b,.int .i64 m.v.v.n,.str m.v.v.s,.aB,.aB,vk,vn,nv,ev,.int .i64 m.w.k,.str m.w.s,.int .i64 m.w.v.k,.bool m.w.v.b,.int .i64 m.w.v.n,.str m.w.v.s,.aB,.aB,wk,wn,cv,.bool m.c,.bool m.h,.str m.o,.bool m.d,.int .i64 m.l]):=by rw[h.k.2.1 b hb0,hg]
 have h1:=hF.l
 unfold dD
 repeat(refine T.step (by simp(disch:=(first | ((repeat(first | rw[aC] | rw[aE] | rw[List.length_cons] | rw[List.length_nil])) <;> omega) | (refine(?_:_∧True).1; constructor; simp only[aM, *]; exact True.intro))) only[bB,gb]; try exact rfl) ?_)
 unfold strconv_Itoa pP
 refine T.bind (T.bind (T.step (Nr (hO.BP (KN.kp (p:=0) (q:=0) h.k)) (by omega) h1) (T.some (T.some ?_))))
 refine T.step (iB (by have:=Go.Lib.itoa_length_le m.l (by omega) h1; simp only[List.length_cons,List.length_nil]; omega)) ?_
 exact Aa h hl fun x' st1 h1=>hk _ _ h1
theorem P5 {m:Sm}{vk vn nv ev wk wn cv:AV}{st0:St}(h:Py m vk vn nv ev wk wn cv):qP 34 (.agg [.int .i64 m.k,.str m.t,.str m.f,.int .i64 m.v.k,.str m.v.s,.int .i64 m.v.v.k,.bool m.v.v.b,.int .i64 m.v.v.n,.str m.v.v.s,.aB,.aB,vk,vn,nv,ev,.int .i64 m.w.k,.str m.w.s,.int .i64 m.w.v.k,.bool m.w.v.b,.int .i64 m.w.v.n,.str m.w.v.s,.aB,.aB,wk,wn,cv,.bool m.c,.bool m.h,.str m.o,.bool m.d,.int .i64 m.l]) st0=.some (.ref st0.next 0,st0.push (.cells 34 true [.int .i64 m.k,.str m.t,.str m.f,.int .i64 m.v.k,.str m.v.s,.int .i64 m.v.v.k,.bool m.v.v.b,.int .i64 m.v.v.n,.str m.v.v.s,.aB,.aB,vk,vn,nv,ev,.int .i64 m.w.k,.str m.w.s,.int .i64 m.w.v.k,.bool m.w.v.b,.int .i64 m.w.v.n,.str m.w.v.s,.aB,.aB,wk,wn,cv,.bool m.c,.bool m.h,.str m.o,.bool m.d,.int .i64 m.l])):=by
 obtain⟨h1,h2,h3,h4,h5,h6,h7⟩:=h
 have:List.all [.int .i64 m.k,.str m.t,.str m.f,.int .i64 m.v.k,.str m.v.s,.int .i64 m.v.v.k,.bool m.v.v.b,.int .i64 m.v.v.n,.str m.v.v.s,.aB,.aB,vk,vn,nv,ev,.int .i64 m.w.k,.str m.w.s,.int .i64 m.w.v.k,.bool m.w.v.b,.int .i64 m.w.v.n,.str m.w.v.s,.aB,.aB,wk,wn,cv,.bool m.c,.bool m.h,.str m.o,.bool m.d,.int .i64 m.l] AV.one=true:=by
  simp only[List.all_cons,List.all_nil,LQ,LG,Mx,OU,h1,h2,h3,h4,h5,h6,h7,Bool.and_self]
 exact if_pos this
theorem IA:∀(l:List (List UInt8)) (k:List Ex),(y8 l k).length≤l.length
 | [],_=>by simp[y8]
 | a :: l,[]=>by simp[y8]
 | a :: l, e :: k => by
   have:=IA l k
   simp only[y8,List.length_cons]; omega
theorem OC (w:Ex):(tW w).length≤1:=by unfold tW; split <;> simp
theorem Gt {b:Bool}{t:nI}:(opt b t).length≤1:=by unfold opt; split <;> simp
theorem KB {R : Nat} (hn : 1000000 < R) {m : Sm} {vk vn nv ev wk wn cv : AV} {st : St} {φ : List UInt8 × AV × St → Prop} (hm : RS m vk vn nv ev wk wn cv) (hO : Old st) (hF : FZ m)
 (hφ:∀ tv st1,sX (tS m) tv→KN st st1→φ ((tS m).s,tv,st1)):T φ (eJ R m.k m.t m.f m.v.k m.v.s m.v.v.k m.v.v.b m.v.v.n m.v.v.s .aB .aB vk vn nv ev m.w.k m.w.s m.w.v.k m.w.v.b m.w.v.n m.w.v.s .aB .aB wk wn cv m.c m.h m.o m.d m.l st):=by
 have ho:=hm.IP
 obtain⟨o1,o2,o3,o4,o5,o6,o7⟩:=hm.IP
 have ft:=hF.t
 have ff:=hF.f
 have fc:=hF.cl
 have fn:=hF.nl
 unfold eJ
 refine T.step (P5 ho) ?_
 refine T.step (Lc _) ?_
 generalize hs0:(st.push (.cells 34 true [.int .i64 m.k,.str m.t,.str m.f,.int .i64 m.v.k,.str m.v.s,.int .i64 m.v.v.k,.bool m.v.v.b,.int .i64 m.v.v.n,.str m.v.v.s,.aB,.aB,vk,vn,nv,ev,.int .i64 m.w.k,.str m.w.s,.int .i64 m.w.v.k,.bool m.w.v.b,.int .i64 m.w.v.n,.str m.w.v.s,.aB,.aB,wk,wn,cv,.bool m.c,.bool m.h,.str m.o,.bool m.d,.int .i64 m.l])).push (.cells 46 true [.str [],.aB])=st0
 have n0:st0.next=st.next+2:=by rw[← hs0]; rfl
 have K0:KN st st0:=by rw[← hs0]; exact(by repeat' (first | exact KN.refl | exact KN.refl | refine KN.eI ?_ | refine KN.loc ?_ ?_ | ((try simp only[aC,aE]) <;> omega)))
 have hb0:st.next<st0.next:=by omega
 have g0:st0.aS.get st.next=.some (.cells 34 true [.int .i64 m.k,.str m.t,.str m.f,.int .i64 m.v.k,.str m.v.s,.int .i64 m.v.v.k,.bool m.v.v.b,.int .i64 m.v.v.n,.str m.v.v.s,.aB,.aB,vk,vn,nv,ev,.int .i64 m.w.k,.str m.w.s,.int .i64 m.w.v.k,.bool m.w.v.b,.int .i64 m.w.v.n,.str m.w.v.s,.aB,.aB,wk,wn,cv,.bool m.c,.bool m.h,.str m.o,.bool m.d,.int .i64 m.l]):=by rw[← hs0]; simp(disch:=(first | ((repeat(first | rw[aC] | rw[aE] | rw[List.length_cons] | rw[List.length_nil])) <;> omega) | (refine(?_:_∧True).1; constructor; simp only[aM, *]; exact True.intro))) only[dH]
 have g0r:st0.aS.get (st.next+1)=.some (.cells 46 true [.str [],.aB]):=by rw[← hs0]; simp(disch:=(first | ((repeat(first | rw[aC] | rw[aE] | rw[List.length_cons] | rw[List.length_nil])) <;> omega) | (refine(?_:_∧True).1; constructor; simp only[aM, *]; exact True.intro))) only[dH]
 have hO0:=hO.BP (KN.kp (p:=0) (q:=0) K0)
 have hR0:Rw st0 (st0.push (.oE 0)) (.sl st0.next 0 0 2 (.some 0) []) []:=⟨[],.inr ⟨_,_,_,_,rfl,rfl,by((try simp only[aC,aE]) <;> omega),.inl rfl⟩,IX.nil,fun id hi=>by rw[show id=st0.next from hi]; exact Nat.le_refl _,KN.refl.eI⟩
 have hO1:=hO0.BP (KN.kp (p:=0) (q:=0) hR0.k)
 have g1:(st0.push (.oE 0)).aS.get st.next=.some (.cells 34 true [.int .i64 m.k,.str m.t,.str m.f,.int .i64 m.v.k,.str m.v.s,.int .i64 m.v.v.k,.bool m.v.v.b,.int .i64 m.v.v.n,.str m.v.v.s,.aB,.aB,vk,vn,nv,ev,.int .i64 m.w.k,.str m.w.s,.int .i64 m.w.v.k,.bool m.w.v.b,.int .i64 m.w.v.n,.str m.w.v.s,.aB,.aB,wk,wn,cv,.bool m.c,.bool m.h,.str m.o,.bool m.d,.int .i64 m.l]):=by simp(disch:=(first | ((repeat(first | rw[aC] | rw[aE] | rw[List.length_cons] | rw[List.length_nil])) <;> omega) | (refine(?_:_∧True).1; constructor; simp only[aM, *]; exact True.intro))) only[dH,g0]
 have hfin:∀{s:List UInt8} {l:List nI} {av:AV} {s1:St},KN st0 s1→sX (.mk s l) av→tS m=.mk s l →
  T φ (Option.bind (aV R s av s1) fun o=>match o with | (s4534,x4535,st4537)=>Option.bind (storeAt C0.P st4537 46 (.ref (st.push (.cells 34 true [.int .i64 m.k,.str m.t,.str m.f,.int .i64 m.v.k,.str m.v.s,.int .i64 m.v.v.k,.bool m.v.v.b,.int .i64 m.v.v.n,.str m.v.v.s,.aB,.aB,vk,vn,nv,ev,.int .i64 m.w.k,.str m.w.s,.int .i64 m.w.v.k,.bool m.w.v.b,.int .i64 m.w.v.n,.str m.w.v.s,.aB,.aB,wk,wn,cv,.bool m.c,.bool m.h,.str m.o,.bool m.d,.int .i64 m.l])).next 0) (.agg [(.str s4534),x4535])) fun st4539=>Option.bind (loadAt C0.P st4539 46 (.ref (st.push (.cells 34 true [.int .i64 m.k,.str m.t,.str m.f,.int .i64 m.v.k,.str m.v.s,.int .i64 m.v.v.k,.bool m.v.v.b,.int .i64 m.v.v.n,.str m.v.v.s,.aB,.aB,vk,vn,nv,ev,.int .i64 m.w.k,.str m.w.s,.int .i64 m.w.v.k,.bool m.w.v.b,.int .i64 m.w.v.n,.str m.w.v.s,.aB,.aB,wk,wn,cv,.bool m.c,.bool m.h,.str m.o,.bool m.d,.int .i64 m.l])).next 0)) fun x4541=>Option.bind (dF x4541) fun o=>match o with | (s4542,x4543)=>.some (s4542,x4543,st4539)):=by
  intro s l av s1 ks hr he
  have oa:=hr.one
  rw[he] at hφ
  refine T.bind (B8 oa fun st2 k2 hn=>?_)
  have K2:=ks.trans k2
  have g2:st2.aS.get (st.next+1)=.some (.cells 46 true [.str [],.aB]):=(K2.2.1 _ (by omega)).trans g0r
  repeat(refine T.step (by simp(disch:=(first | ((repeat(first | rw[aC] | rw[aE] | rw[List.length_cons] | rw[List.length_nil])) <;> omega) | (refine(?_:_∧True).1; constructor; simp only[aM, *]; exact True.intro))) only[bB,g2]; try exact rfl) ?_)
  exact T.some (hφ _ _ hr (by repeat' (first | exact KN.trans (by repeat' (first | exact K0 | exact KN.refl | refine KN.eI ?_ | refine KN.loc ?_ ?_ | ((try simp only[aC,aE]) <;> omega))) K2 | refine KN.eI ?_ | refine KN.loc ?_ ?_ | ((try simp only[aC,aE]) <;> omega))))
 simp only[hs0]
 repeat(refine T.step (by simp(disch:=(first | ((repeat(first | rw[aC] | rw[aE] | rw[List.length_cons] | rw[List.length_nil])) <;> omega) | (refine(?_:_∧True).1; constructor; simp only[aM, *]; exact True.intro))) only[bB,g1]; try exact rfl) ?_)
 by_cases h1:m.k=1
 ·refine T.jC h1 ?_
  repeat(refine T.step (by simp(disch:=(first | ((repeat(first | rw[aC] | rw[aE] | rw[List.length_cons] | rw[List.length_nil])) <;> omega) | (refine(?_:_∧True).1; constructor; simp only[aM, *]; exact True.intro))) only[bB,g1]; try exact rfl) ?_)
  refine T.step (iB (by simp only[List.length_cons,List.length_nil]; omega)) ?_
  exact hfin KN.refl.eI (sX.leaf _) (by rw[tS,if_pos h1])
 refine T.lG h1 ?_
 by_cases h2:m.k=2
 ·refine T.jC h2 ?_
  repeat(refine T.step (by simp(disch:=(first | ((repeat(first | rw[aC] | rw[aE] | rw[List.length_cons] | rw[List.length_nil])) <;> omega) | (refine(?_:_∧True).1; constructor; simp only[aM, *]; exact True.intro))) only[bB,g1]; try exact rfl) ?_)
  refine T.step (iB (by simp only[List.length_cons,List.length_nil]; omega)) ?_
  refine T.step (iB (by simp only[List.length_append,List.length_cons,List.length_nil]; omega)) ?_
  repeat(refine T.step (by simp(disch:=(first | ((repeat(first | rw[aC] | rw[aE] | rw[List.length_cons] | rw[List.length_nil])) <;> omega) | (refine(?_:_∧True).1; constructor; simp only[aM, *]; exact True.intro))) only[bB,g1]; try exact rfl) ?_)
  refine T.step (iB (by simp only[List.length_append,List.length_cons,List.length_nil]; omega)) ?_
  exact hfin KN.refl.eI (sX.leaf _) (by rw[tS,if_neg h1,if_pos h2])
 refine T.lG h2 ?_
 by_cases h3:m.k=3
 ·refine T.jC h3 ?_
  repeat(refine T.step (by simp(disch:=(first | ((repeat(first | rw[aC] | rw[aE] | rw[List.length_cons] | rw[List.length_nil])) <;> omega) | (refine(?_:_∧True).1; constructor; simp only[aM, *]; exact True.intro))) only[bB,g1]; try exact rfl) ?_)
  refine T.step (iB (by simp only[List.length_cons,List.length_nil]; omega)) ?_
  repeat(refine T.step (by simp(disch:=(first | ((repeat(first | rw[aC] | rw[aE] | rw[List.length_cons] | rw[List.length_nil])) <;> omega) | (refine(?_:_∧True).1; constructor; simp only[aM, *]; exact True.intro))) only[bB,g1,Ko]; try exact rfl) ?_)
  refine T.bind (Gq hn hm.v hO1 hF.v fun tv st2 ht k2=>?_)
  have K2:=hR0.k.trans k2
  have g2:=(K2.2.1 _ hb0).trans g0
  repeat(refine T.step (by simp(disch:=(first | ((repeat(first | rw[aC] | rw[aE] | rw[List.length_cons] | rw[List.length_nil])) <;> omega) | (refine(?_:_∧True).1; constructor; simp only[aM, *]; exact True.intro))) only[bB,g2]; try exact rfl) ?_)
  refine T.jC (tR _) ?_
  refine T.step (tL (P:=C0.P) (t:=44) (v:=.agg [.str (tE m.v).s,tv]) _ rfl (u7 ht) (by decide)) ?_
  exact hfin K2.eI (sX.un ht) (by rw[tS,if_neg h1,if_neg h2,if_pos h3])
 refine T.lG h3 ?_
 by_cases h4:m.k=4
 ·refine T.jC h4 ?_
  unfold eV
  refine T.bind (T.bind (Lu hn (b:=st.next) hm hO0 hb0 g0 hF (fun st2 x2 r2=>T.some ?_) R 0 (Nat.zero_le _) (by omega) hR0 rfl rfl))
  have K2:=r2.k
  have g2:=(K2.2.1 _ hb0).trans g0
  have lset:=IA m.names m.exprs
  repeat(refine T.step (by simp(disch:=(first | ((repeat(first | rw[aC] | rw[aE] | rw[List.length_cons] | rw[List.length_nil])) <;> omega) | (refine(?_:_∧True).1; constructor; simp only[aM, *]; exact True.intro))) only[bB,g2]; try exact rfl) ?_)
  refine T.step (iB (by simp only[List.length_cons,List.length_nil]; omega)) ?_
  repeat(refine T.step (by simp(disch:=(first | ((repeat(first | rw[aC] | rw[aE] | rw[List.length_cons] | rw[List.length_nil])) <;> omega) | (refine(?_:_∧True).1; constructor; simp only[aM, *]; exact True.intro))) only[bB,g2,Ko]; try exact rfl) ?_)
  refine T.bind (ES hn hm.w (hO0.BP (KN.kp (p:=0) (q:=0) K2)) hF.w fun xw st3 hw k3=>?_)
  have K3:=K2.trans k3
  have g3:=(K3.2.1 _ hb0).trans g0
  repeat(refine T.step (by simp(disch:=(first | ((repeat(first | rw[aC] | rw[aE] | rw[List.length_cons] | rw[List.length_nil])) <;> omega) | (refine(?_:_∧True).1; constructor; simp only[aM, *]; exact True.intro))) only[bB,g3]; try exact rfl) ?_)
  refine T.jC (tR _) ?_
  refine PJ (r2.kn k3) hw (by omega) fun x4 st4 r4=>?_
  have g4:=(r4.k.2.1 _ hb0).trans g0
  repeat(refine T.step (by simp(disch:=(first | ((repeat(first | rw[aC] | rw[aE] | rw[List.length_cons] | rw[List.length_nil])) <;> omega) | (refine(?_:_∧True).1; constructor; simp only[aM, *]; exact True.intro))) only[bB,g4]; try exact rfl) ?_)
  refine T.jC (tR _) ?_
  exact hfin r4.k r4.row (by rw[tS,if_neg h1,if_neg h2,if_neg h3,if_pos h4])
 refine T.lG h4 ?_
 by_cases h5:m.k=5
 ·refine T.jC h5 ?_
  repeat(refine T.step (by simp(disch:=(first | ((repeat(first | rw[aC] | rw[aE] | rw[List.length_cons] | rw[List.length_nil])) <;> omega) | (refine(?_:_∧True).1; constructor; simp only[aM, *]; exact True.intro))) only[bB,g1]; try exact rfl) ?_)
  refine T.step (iB (by simp only[List.length_cons,List.length_nil]; omega)) ?_
  repeat(refine T.step (by simp(disch:=(first | ((repeat(first | rw[aC] | rw[aE] | rw[List.length_cons] | rw[List.length_nil])) <;> omega) | (refine(?_:_∧True).1; constructor; simp only[aM, *]; exact True.intro))) only[bB,g1,Ko]; try exact rfl) ?_)
  refine T.bind (ES hn hm.w hO1 hF.w fun xw st3 hw k3=>?_)
  have K3:=hR0.k.trans k3
  have g3:=(K3.2.1 _ hb0).trans g0
  repeat(refine T.step (by simp(disch:=(first | ((repeat(first | rw[aC] | rw[aE] | rw[List.length_cons] | rw[List.length_nil])) <;> omega) | (refine(?_:_∧True).1; constructor; simp only[aM, *]; exact True.intro))) only[bB,g3]; try exact rfl) ?_)
  refine T.jC (tR _) ?_
  exact hfin K3 hw.row (by rw[tS,if_neg h1,if_neg h2,if_neg h3,if_neg h4,if_pos h5])
 refine T.lG h5 ?_
 unfold iX
 refine T.bind (T.bind (Jw (b:=st.next) hm hb0 g0 hF (fun st2 x2 r2=>T.some ?_) R 0 (Nat.zero_le _) (by omega) hR0 rfl rfl))
 have g2:=(r2.k.2.1 _ hb0).trans g0
 have l2:(m.nG.map Gx).length≤1000000:=by rw[List.length_map]; exact fc
 repeat(refine T.step (by simp(disch:=(first | ((repeat(first | rw[aC] | rw[aE] | rw[List.length_cons] | rw[List.length_nil])) <;> omega) | (refine(?_:_∧True).1; constructor; simp only[aM, *]; exact True.intro))) only[bB,g2]; try exact rfl) ?_)
 refine T.bind (PD r2 (by omega) fun x3 st3 r3=>?_)
 have g3:=(r3.k.2.1 _ hb0).trans g0
 have l3:=Gt (b:=m.c) (t:=.mk [67,79,85,78,84] [])
 repeat(refine T.step (by simp(disch:=(first | ((repeat(first | rw[aC] | rw[aE] | rw[List.length_cons] | rw[List.length_nil])) <;> omega) | (refine(?_:_∧True).1; constructor; simp only[aM, *]; exact True.intro))) only[bB,g3]; try exact rfl) ?_)
 refine T.bind (P6 r3 (by rw[List.length_append]; omega) fun x4 st4 r4=>?_)
 have g4:=(r4.k.2.1 _ hb0).trans g0
 have l4:=Gt (b:=m.h) (t:=.mk [72,73,83,84,79,82,89] [])
 repeat(refine T.step (by simp(disch:=(first | ((repeat(first | rw[aC] | rw[aE] | rw[List.length_cons] | rw[List.length_nil])) <;> omega) | (refine(?_:_∧True).1; constructor; simp only[aM, *]; exact True.intro))) only[bB,g4,Ko]; try exact rfl) ?_)
 refine T.bind (ES hn hm.w (hO0.BP (KN.kp (p:=0) (q:=0) r4.k)) hF.w fun xw st5 hw k5=>?_)
 have lw:=OC m.w
 refine PJ (r4.kn k5) hw (by simp only[List.length_append]; omega) fun x6 st6 r6=>?_
 have g6:=(r6.k.2.1 _ hb0).trans g0
 repeat(refine T.step (by simp(disch:=(first | ((repeat(first | rw[aC] | rw[aE] | rw[List.length_cons] | rw[List.length_nil])) <;> omega) | (refine(?_:_∧True).1; constructor; simp only[aM, *]; exact True.intro))) only[bB,g6]; try exact rfl) ?_)
 have htail:∀{x7:AV} {st7:St} {l7:List nI},Rw st0 st7 x7 l7→l7.length≤2000000→tS m=.mk ([83,69,76,69,67,84,32] ++ m.t) ((l7 ++ opt m.d (.mk [68,69,83,67] [])) ++ (if m.l≥0 then [.mk ([76,73,77,73,84,32] ++ Go.Lib.itoa m.l) []] else [])) →
  T φ (
   Option.bind (shift (AV.ref st.next 0) 29) fun x5359=>
   Option.bind (loadAt C0.P st7 4 x5359) fun x5361=>
   Option.bind (rO x5361) fun b5362=>
   Option.bind (dG R (AV.ref st.next 0) (St.next (st.push (.cells 34 true [.int .i64 m.k,.str m.t,.str m.f,.int .i64 m.v.k,.str m.v.s,.int .i64 m.v.v.k,.bool m.v.v.b,.int .i64 m.v.v.n,.str m.v.v.s,.aB,.aB,vk,vn,nv,ev,.int .i64 m.w.k,.str m.w.s,.int .i64 m.w.v.k,.bool m.w.v.b,.int .i64 m.w.v.n,.str m.w.v.s,.aB,.aB,wk,wn,cv,.bool m.c,.bool m.h,.str m.o,.bool m.d,.int .i64 m.l]))) x7 b5362 st7) fun(x5397,st5398)=>
   Option.bind (shift (AV.ref st.next 0) 30) fun x5400=>
   Option.bind (loadAt C0.P st5398 3 x5400) fun x5402=>
   Option.bind (eP .i64 x5402) fun i5403=>
   if(i5403≥0) then
    Option.bind (dD R (AV.ref st.next 0) (St.next (st.push (.cells 34 true [.int .i64 m.k,.str m.t,.str m.f,.int .i64 m.v.k,.str m.v.s,.int .i64 m.v.v.k,.bool m.v.v.b,.int .i64 m.v.v.n,.str m.v.v.s,.aB,.aB,vk,vn,nv,ev,.int .i64 m.w.k,.str m.w.s,.int .i64 m.w.v.k,.bool m.w.v.b,.int .i64 m.w.v.n,.str m.w.v.s,.aB,.aB,wk,wn,cv,.bool m.c,.bool m.h,.str m.o,.bool m.d,.int .i64 m.l]))) x5397 st5398) fun(x5467,st5468)=>
    Option.bind (shift (AV.ref st.next 0) 1) fun x5470=>
    Option.bind (loadAt C0.P st5468 9 x5470) fun x5472=>
    Option.bind (iZ x5472) fun s5473=>
    Option.bind (oC [83,69,76,69,67,84,32] s5473) fun s5476=>
    Option.bind (aV R s5476 x5467 st5468) fun(s5477,x5478,st5480)=>
    Option.bind (storeAt C0.P st5480 46 (.ref (St.next (st.push (.cells 34 true [.int .i64 m.k,.str m.t,.str m.f,.int .i64 m.v.k,.str m.v.s,.int .i64 m.v.v.k,.bool m.v.v.b,.int .i64 m.v.v.n,.str m.v.v.s,.aB,.aB,vk,vn,nv,ev,.int .i64 m.w.k,.str m.w.s,.int .i64 m.w.v.k,.bool m.w.v.b,.int .i64 m.w.v.n,.str m.w.v.s,.aB,.aB,wk,wn,cv,.bool m.c,.bool m.h,.str m.o,.bool m.d,.int .i64 m.l]))) 0) (.agg [(.str s5477),x5478])) fun st5482=>
    Option.bind (loadAt C0.P st5482 46 (.ref (St.next (st.push (.cells 34 true [.int .i64 m.k,.str m.t,.str m.f,.int .i64 m.v.k,.str m.v.s,.int .i64 m.v.v.k,.bool m.v.v.b,.int .i64 m.v.v.n,.str m.v.v.s,.aB,.aB,vk,vn,nv,ev,.int .i64 m.w.k,.str m.w.s,.int .i64 m.w.v.k,.bool m.w.v.b,.int .i64 m.w.v.n,.str m.w.v.s,.aB,.aB,wk,wn,cv,.bool m.c,.bool m.h,.str m.o,.bool m.d,.int .i64 m.l]))) 0)) fun x5484=>
    Option.bind (dF x5484) fun(s5485,x5486)=>
    .some (s5485,x5486,st5482)
   else
    Option.bind (dN R (AV.ref st.next 0) (St.next (st.push (.cells 34 true [.int .i64 m.k,.str m.t,.str m.f,.int .i64 m.v.k,.str m.v.s,.int .i64 m.v.v.k,.bool m.v.v.b,.int .i64 m.v.v.n,.str m.v.v.s,.aB,.aB,vk,vn,nv,ev,.int .i64 m.w.k,.str m.w.s,.int .i64 m.w.v.k,.bool m.w.v.b,.int .i64 m.w.v.n,.str m.w.v.s,.aB,.aB,wk,wn,cv,.bool m.c,.bool m.h,.str m.o,.bool m.d,.int .i64 m.l]))) x5397) fun x5497=>
    Option.bind (shift (AV.ref st.next 0) 1) fun x5499=>
    Option.bind (loadAt C0.P st5398 9 x5499) fun x5501=>
    Option.bind (iZ x5501) fun s5502=>
    Option.bind (oC [83,69,76,69,67,84,32] s5502) fun s5505=>
    Option.bind (aV R s5505 x5497 st5398) fun(s5506,x5507,st5509)=>
    Option.bind (storeAt C0.P st5509 46 (.ref (St.next (st.push (.cells 34 true [.int .i64 m.k,.str m.t,.str m.f,.int .i64 m.v.k,.str m.v.s,.int .i64 m.v.v.k,.bool m.v.v.b,.int .i64 m.v.v.n,.str m.v.v.s,.aB,.aB,vk,vn,nv,ev,.int .i64 m.w.k,.str m.w.s,.int .i64 m.w.v.k,.bool m.w.v.b,.int .i64 m.w.v.n,.str m.w.v.s,.aB,.aB,wk,wn,cv,.bool m.c,.bool m.h,.str m.o,.bool m.d,.int .i64 m.l]))) 0) (.agg [(.str s5506),x5507])) fun st5511=>
    Option.bind (loadAt C0.P st5511 46 (.ref (St.next (st.push (.cells 34 true [.int .i64 m.k,.str m.t,.str m.f,.int .i64 m.v.k,.str m.v.s,.int .i64 m.v.v.k,.bool m.v.v.b,.int .i64 m.v.v.n,.str m.v.v.s,.aB,.aB,vk,vn,nv,ev,.int .i64 m.w.k,.str m.w.s,.int .i64 m.w.v.k,.bool m.w.v.b,.int .i64 m.w.v.n,.str m.w.v.s,.aB,.aB,wk,wn,cv,.bool m.c,.bool m.h,.str m.o,.bool m.d,.int .i64 m.l]))) 0)) fun x5513=>
    Option.bind (dF x5513) fun(s5514,x5515)=>
    .some (s5514,x5515,st5511)):=by
  intro x7 st7 l7 r7 l7l he
  have g7:=(r7.k.2.1 _ hb0).trans g0
  repeat(refine T.step (by simp(disch:=(first | ((repeat(first | rw[aC] | rw[aE] | rw[List.length_cons] | rw[List.length_nil])) <;> omega) | (refine(?_:_∧True).1; constructor; simp only[aM, *]; exact True.intro))) only[bB,g7]; try exact rfl) ?_)
  refine T.bind (PE r7 (by omega) fun x8 st8 r8=>?_)
  have l8:=Gt (b:=m.d) (t:=.mk [68,69,83,67] [])
  have g8:=(r8.k.2.1 _ hb0).trans g0
  repeat(refine T.step (by simp(disch:=(first | ((repeat(first | rw[aC] | rw[aE] | rw[List.length_cons] | rw[List.length_nil])) <;> omega) | (refine(?_:_∧True).1; constructor; simp only[aM, *]; exact True.intro))) only[bB,g8]; try exact rfl) ?_)
  by_cases hl:m.l≥0
  ·refine T.jC hl ?_
   refine T.bind (PA (b:=st.next) hO0 hb0 g0 hF r8 (by rw[List.length_append]; omega) hl fun x9 st9 r9=>?_)
   have g9:=(r9.k.2.1 _ hb0).trans g0
   repeat(refine T.step (by simp(disch:=(first | ((repeat(first | rw[aC] | rw[aE] | rw[List.length_cons] | rw[List.length_nil])) <;> omega) | (refine(?_:_∧True).1; constructor; simp only[aM, *]; exact True.intro))) only[bB,g9]; try exact rfl) ?_)
   refine T.step (iB (by simp only[List.length_cons,List.length_nil]; omega)) ?_
   exact hfin r9.k r9.row (by rw[he,if_pos hl])
  ·refine T.lG hl ?_
   unfold dN
   refine T.step rfl ?_
   repeat(refine T.step (by simp(disch:=(first | ((repeat(first | rw[aC] | rw[aE] | rw[List.length_cons] | rw[List.length_nil])) <;> omega) | (refine(?_:_∧True).1; constructor; simp only[aM, *]; exact True.intro))) only[bB,g8]; try exact rfl) ?_)
   refine T.step (iB (by simp only[List.length_cons,List.length_nil]; omega)) ?_
   exact hfin r8.k r8.row (by rw[he,if_neg hl,List.append_nil])
 by_cases ho:m.o=[]
 ·refine T.jC ho ?_
  unfold gZ
  refine T.step rfl ?_
  exact htail r6 (by simp only[List.length_append]; omega) (by rw[tS,if_neg h1,if_neg h2,if_neg h3,if_neg h4,if_neg h5,if_pos ho,List.append_nil]; rfl)
 ·refine T.lG ho ?_
  refine T.bind (Ox (b:=st.next) hb0 g0 hF r6 (by simp only[List.length_append]; omega) fun x7 st7 r7=>?_)
  exact htail r7 (by simp only[List.length_append,List.length_cons,List.length_nil]; omega) (by rw[tS,if_neg h1,if_neg h2,if_neg h3,if_neg h4,if_neg h5,if_neg ho]; rfl)
end
end Go.Proofs.YthodfojhbbendaaDoor
end
section
set_option linter.all false
set_option maxRecDepth 100000
set_option maxHeartbeats 4000000
namespace Go.Proofs.YthodfojhbbendaaDoor
open Go Go.Ev
noncomputable section
attribute [local congr] rL zU
mutual
theorem Ms:∀ t:nI,(Nb t).length+1≤Bj t
 | .mk s kids => by
   have:=Es kids
   simp only[Nb,Bj,List.length_append,List.length_cons,List.length_nil]
   omega
theorem Es:∀ l:List nI,(DI l).length≤kT l
 | []=>Nat.le_refl _
 | t :: l => by
   have:=Ms t
   have:=Es l
   simp only[DI,kT,List.length_append,List.length_cons,List.length_nil]
   omega
end
theorem HZ:∀{l:List nI} {j:Nat} (h:j<l.length),Cl l[j]≤lU l∧Bj l[j]≤kT l
 | e :: l, 0, h => by
   simp only[List.getElem_cons_zero,lU,kT]
   exact⟨Nat.le_max_left _ _,Nat.le_add_right _ _⟩
 | e :: l, j + 1, h => by
   have hj:j<l.length:=by simp at h; omega
   have:=HZ hj
   simp only[List.getElem_cons_succ,lU,kT]
   exact⟨Nat.le_trans this.1 (Nat.le_max_right _ _),Nat.le_trans this.2 (Nat.le_add_left _ _)⟩
theorem Dm:∀ l:List nI,10 * l.length≤kT l
 | []=>Nat.zero_le _
 | .mk s k :: l => by
   have:=Dm l
   simp only[kT,Bj,List.length_cons]; omega
theorem RT.F9 {t:nI}{c:List AV}(h:RT t c):∃ kv,c=[.str t.s,kv]∧sX t kv:=by
 cases h with
 | mk h1 h3 h4=>exact⟨_,rfl,RT.mk h1 h3 h4⟩
theorem sX.inv {t:nI}{kv:AV}(h:sX t kv):∃ kcs,Row 2 kv kcs∧IX t.kids kcs:=by
 unfold sX at h
 cases h with
 | mk h1 h3 h4=>exact⟨_,h1,h3,h4⟩
theorem Mj {st:St}{kcs:List AV}{l:List nI}(h:IX l kcs){i:Nat}(hi:i<l.length):∃ kv,loadAt C0.P st 46 (.rA (kcs.drop (i * 2)))=.some (.agg [.str l[i].s,kv])∧sX l[i] kv:=by
 obtain⟨kv,e,hx⟩:=(h.2 i hi).F9
 refine⟨kv,?_,hx⟩
 rw[EZ (n:=2) (by rw[List.length_drop,h.1]; omega),e]
def yE (t:nI)(k:Nat):Prop:=Cl t≤k∧Bj t≤10000000
def SS (R:As)(k:Nat):Prop:=∀{t:nI} {kv:AV} {st:St} {φ:List UInt8×St→Prop},sX t kv→yE t k→(∀ st1,KN st st1→φ (Nb t,st1))→T φ (R.f11 t.s kv st)
theorem Nq {R : As} {k : Nat} (HR : SS R k) {t : nI} {kv : AV} {b : Nat} {st0 : St} {φ : List UInt8 × St → Prop} (hx : sX t kv) (hb0 : b < st0.next) (hg : st0.aS.get b = .some (.cells 46 true [.str t.s, kv]))
 (hdp:lU t.kids≤k) (hwt:kT t.kids≤10000000) (hφ:∀ st1 s,s=([40] ++ t.s) ++ DI t.kids→KN st0 st1→φ (s,st1)):
 ∀ (r i : Nat) {st : St} {s : List UInt8}, i ≤ t.kids.length → t.kids.length - i < r → KN st0 st → s ++ DI (t.kids.drop i) = ([40] ++ t.s) ++ DI t.kids → (([40] ++ t.s) ++ DI t.kids).length ≤ 100000000 →
  T φ (fA R (.ref b 0) r s (i:Int) st)
 | 0,i,_,_,_,hr,_,_,_=>by omega
 | r + 1, i, st, s, hi, hr, hK, hacc, hlen => by
   obtain⟨kcs,hrow,hks⟩:=hx.inv
   have o1:=hx.one
   have wk:=Dm t.kids
   have gb:st.aS.get b=.some (.cells 46 true [.str t.s,kv]):=by rw[hK.2.1 b hb0,hg]
   unfold fA
   have hln:lenOf kv=.some t.kids.length:=by rw[s9 hrow (by decide),hks.1,Nat.mul_div_cancel _ (by decide)]
   repeat(refine T.step (by simp(disch:=(first | ((repeat(first | rw[aC] | rw[aE] | rw[List.length_cons] | rw[List.length_nil])) <;> omega) | (refine(?_:_∧True).1; constructor; simp only[aM, *]; exact True.intro))) only[bB,gb]; try exact rfl) ?_)
   refine T.step hln ?_
   by_cases hlt:i<t.kids.length
   ·refine T.jC (by omega) ?_
    unfold iD
    obtain⟨kv1,hld,hx1⟩:=Mj (st:=st) hks hlt
    have hkid:=HZ hlt
    refine T.bind ?_
    repeat(refine T.step (by simp(disch:=(first | ((repeat(first | rw[aC] | rw[aE] | rw[List.length_cons] | rw[List.length_nil])) <;> omega) | (refine(?_:_∧True).1; constructor; simp only[aM, *]; exact True.intro))) only[bB,gb,sO (P:=C0.P) (t:=44) (k:=.i64) hrow (show i * 2<kcs.length by rw[hks.1]; omega),hld]; try exact rfl) ?_)
    refine T.bind (HR hx1 ⟨Nat.le_trans hkid.1 hdp,Nat.le_trans hkid.2 hwt⟩ fun st1 k1=>?_)
    have e4:s ++ (([32] ++ Nb t.kids[i]) ++ DI (t.kids.drop (i+1)))=([40] ++ t.s) ++ DI t.kids:=by
     rw[← hacc,List.drop_eq_getElem_cons hlt]; rfl
    have e5:s.length+(1+(Nb t.kids[i]).length)≤100000000:=by
     have:=congrArg List.length e4
     simp only[List.length_append,List.length_cons,List.length_nil] at this hlen
     omega
    refine T.step (iB (by simp only[List.length_cons,List.length_nil]; omega)) ?_
    refine T.step (iB (by simp only[List.length_append,List.length_cons,List.length_nil]; omega)) ?_
    refine T.some ?_
    have e3:IntKind.wrap .i64 ((i:Int)+1)=((i+1:Nat):Int):=by rw[wrap64 (by omega) (by omega)]; omega
    simp only[e3]
    exact Nq HR hx hb0 hg hdp hwt hφ r (i+1) hlt (by omega) (hK.trans k1) (by rw[List.append_assoc]; exact e4) hlen
   ·refine T.lG (by omega) ?_
    refine T.some (hφ _ _ ?_ hK)
    rw[← hacc,List.drop_eq_nil_of_le (show t.kids.length≤i by omega)]
    simp[DI]
theorem Nu {R:As}{k:Nat}(HR:SS R k)(hR:1000000<R.n){t:nI}{kv:AV}{st:St}{φ:List UInt8×St→Prop}(hx:sX t kv)(hF:yE t (k+1))
 (hφ:∀ st1,KN st st1→φ (Nb t,st1)):T φ (j9 R t.s kv st):=by
 obtain⟨f1,f2⟩:=hF
 have o1:=hx.one
 have h3:lU t.kids≤k∧10+t.s.length+kT t.kids≤10000000:=by
  obtain⟨s,l⟩:=t
  simp only[Cl,Bj,nI.kids,nI.s] at *
  omega
 have h4:=Es t.kids
 have h5:=Dm t.kids
 have he:Nb t=([40] ++ t.s) ++ DI t.kids ++ [41]:=by cases t; rfl
 unfold j9
 have hb:qP 46 (.agg [.str t.s,kv]) st=.some (.ref st.next 0,st.push (.cells 46 true [.str t.s,kv])):=by
  have:List.all [.str t.s,kv] AV.one=true:=u7 hx
  exact if_pos this
 refine T.step hb ?_
 repeat(refine T.step (by simp(disch:=(first | ((repeat(first | rw[aC] | rw[aE] | rw[List.length_cons] | rw[List.length_nil])) <;> omega) | (refine(?_:_∧True).1; constructor; simp only[aM, *]; exact True.intro))) only[bB]; try exact rfl) ?_)
 refine T.step (iB (by simp only[List.length_cons,List.length_nil]; omega)) ?_
 unfold jH
 refine T.bind (T.bind (Nq (st0:=st.push (.cells 46 true [.str t.s,kv])) (b:=st.next) HR hx (by((try simp only[aC,aE]) <;> omega)) (by simp(disch:=(first | ((repeat(first | rw[aC] | rw[aE] | rw[List.length_cons] | rw[List.length_nil])) <;> omega) | (refine(?_:_∧True).1; constructor; simp only[aM, *]; exact True.intro))) only[dH]) h3.1 (by omega) (fun st1 s hs k1=>T.some ?_) R.n 0 (Nat.zero_le _) (by omega) KN.refl rfl (by simp only[List.length_append,List.length_cons,List.length_nil]; omega)))
 have hl:s.length≤100000000:=by rw[hs]; simp only[List.length_append,List.length_cons,List.length_nil]; omega
 refine T.step (iB (by simp only[List.length_cons,List.length_nil]; omega)) ?_
 have:=hφ _ (KN.refl.eI.trans k1)
 rw[he,← hs] at this
 exact T.some this
theorem D9 (n:Nat)(hn:1000000<n):∀ k,SS (LM n k) k
 | 0 => by
   intro hx hF hφ
   rename_i t _ _ _
   obtain⟨s,l⟩:=t
   have:=hF.1
   simp only[Cl] at this
   omega
 | k+1=>fun hx hF hφ=>Nu (D9 n hn k) (by rw[GO]; exact hn) hx hF hφ
theorem Ja {n:Nat}(hn:1000000<n){t:nI}{kv:AV}{st:St}{φ:List UInt8×St→Prop}(hx:sX t kv)(hF:yE t 4000)
 (hφ:∀ st1,KN st st1→φ (Nb t,st1)):T φ (eH n t.s kv st):=
 Nu (D9 n hn 4000) (by rw[GO]; exact hn) hx ⟨by have:=hF.1; omega,hF.2⟩ hφ
end
end Go.Proofs.YthodfojhbbendaaDoor
end
section
set_option linter.all false
set_option maxRecDepth 100000
set_option maxHeartbeats 1000000
namespace Go.Proofs.YthodfojhbbendaaDoor
open Go Go.Ev
noncomputable section
structure Ad (ws:List W)(z z':Z):Prop where
 le:z.i≤z'.i
 lt:z'.i<ws.length
 d:z'.d=z.d
 e:z.e≠0→z'.e≠0∧z'.i=z.i
theorem Ad.refl {ws:List W}{z:Z}(h:z.i<ws.length):Ad ws z z:=⟨Nat.le_refl _,h,rfl,fun h=>⟨h,rfl⟩⟩
theorem Ad.trans {ws:List W}{a b c:Z}(h:Ad ws a b)(k:Ad ws b c):Ad ws a c:=
 ⟨Nat.le_trans h.le k.le,k.lt,k.d.trans h.d,fun he=>⟨(k.e (h.e he).1).1,(k.e (h.e he).1).2.trans (h.e he).2⟩⟩
theorem Ad.e0 {ws:List W}{a b:Z}(h:Ad ws a b)(k:b.e=0):a.e=0:=by
 by_cases he:a.e=0
 ·exact he
 ·exact absurd k (h.e he).1
theorem xD {ws:List W}{z:Z}{e:Int}(h:z.i<ws.length):Ad ws z (lP z e):=by
 unfold lP
 split
 ·exact⟨Nat.le_refl _,h,rfl,fun he=>absurd (by assumption) he⟩
 ·exact Ad.refl h
theorem Ce {z:Z}{e:Int}(he:e≠0):(lP z e).e≠0:=by
 unfold lP
 split
 ·exact he
 ·assumption
theorem A9 {ws:List W}{z:Z}(W:Wf ws)(h:z.i<ws.length)(he:z.e=0)(hk:(wd ws z.i).1≠0):Ad ws z (wK z):=
 ⟨Nat.le_succ _,W.more _ h hk,rfl,fun h=>absurd he h⟩
theorem jD {ws:List W}{z z1:Z}{k:Int}{s:List UInt8}{b:Bool}(W:Wf ws)(h:z.i<ws.length)(hk:k≠0)(hb:uZ ws z k s=(b,z1)):
 Ad ws z z1∧(b=true→z.e=0∧z1.e=0∧z1.i=z.i+1)∧(b=false→z1=z):=by
 unfold uZ at hb
 split at hb
 ·rename_i hi
  obtain⟨rfl,rfl⟩:=Prod.mk.inj hb
  obtain⟨h1,h2,h3⟩:=Ee hi
  exact⟨A9 W h h1 (by rw[h2]; exact hk),fun _=>⟨h1,h1,rfl⟩,fun h=>by cases h⟩
 ·obtain⟨rfl,rfl⟩:=Prod.mk.inj hb
  exact⟨Ad.refl h,(fun h=>by cases h),fun _=>rfl⟩
theorem oN {ws:List W}{z:Z}{k:Int}{s:List UInt8}(W:Wf ws)(h:z.i<ws.length)(hk:k≠0):
 Ad ws z (dE ws z k s)∧((dE ws z k s).e=0→z.i<(dE ws z k s).i):=by
 unfold dE
 split
 ·rename_i hi
  obtain⟨h1,h2,h3⟩:=Ee hi
  exact⟨A9 W h h1 (by rw[h2]; exact hk),fun _=>Nat.lt_succ_self _⟩
 ·exact⟨xD h,fun he=>absurd he (Ce (by decide))⟩
theorem tG {ws:List W}{z:Z}(W:Wf ws)(h:z.i<ws.length):
 Ad ws z (cJ ws z).2∧((cJ ws z).2.e=0→z.i<(cJ ws z).2.i)∧(cJ ws z).1.length≤2000 * ((cJ ws z).2.i - z.i):=by
 unfold cJ
 split
 ·rename_i hi
  refine⟨A9 W h hi.1 (by rw[hi.2]; decide),fun _=>Nat.lt_succ_self _,?_⟩
  have:=W.short z.i
  show _≤2000 * (z.i+1 - z.i)
  rw[Nat.add_sub_cancel_left]; exact this
 ·exact⟨xD h,fun he=>absurd he (Ce (by decide)),Nat.zero_le _⟩
theorem tU {ws:List W}{z:Z}(h:z.i<ws.length):Ad ws z (gJ z)∧(gJ z).i=z.i:=by
 unfold gJ
 split
 ·refine⟨Ad.trans (b:=wU z) ⟨Nat.le_refl _,h,rfl,fun h=>⟨h,rfl⟩⟩ (xD h),?_⟩
  unfold lP; split <;> rfl
 ·exact⟨⟨Nat.le_refl _,h,rfl,fun h=>⟨h,rfl⟩⟩,rfl⟩
theorem J8 {z:Z}(h0:0≤z.d)(h1:z.d≤25):(cS z).i=z.i∧(cS z).d=z.d+1∧(z.e≠0→(cS z).e≠0)∧((cS z).e=0→z.d≤23):=by
 have hw:IntKind.wrap .i64 (z.d+1)=z.d+1:=wrap64 (by omega) (by omega)
 have h2:(AJ z).d=z.d+1:=hw
 refine⟨JI,?_,?_,?_⟩
 ·unfold cS lP
  split
  ·split <;> exact h2
  ·exact h2
 ·intro he
  unfold cS
  split
  ·unfold lP
   split
   ·exact(by decide:(3:Int)≠0)
   ·exact he
  ·exact he
 ·intro he
  unfold cS at he
  split at he
  ·exact absurd he (Ce (by decide))
  ·omega
theorem Ni {ws:List W}{z z1:Z}(h0:0≤z.d)(h1:z.d≤25)(h:Ad ws (cS z) z1):Ad ws z (Dz z1):=by
 obtain⟨a1,a2,a3,a4⟩:=J8 h0 h1
 refine⟨by have:=h.le; show z.i≤z1.i; omega,h.lt,?_,fun he=>?_⟩
 ·show IntKind.wrap .i64 (z1.d - 1)=z.d
  rw[h.d,a2,wrap64 (by omega) (by omega)]; omega
 ·have:=h.e (a3 he)
  exact⟨this.1,this.2.trans a1⟩
theorem KD {ws:List W}(W:Wf ws):∀(r:Nat) {s:List UInt8} {z:Z},z.i<ws.length→ws.length - z.i<r→s.length+2001 * (ws.length - z.i)≤100000000 →
 ∃ s' z',zE ws r s z=.some (s',z')∧Ad ws z z'∧s'.length≤s.length+2001 * (z'.i - z.i)
 | 0,_,_,_,h,_=>by omega
 | r + 1, s, z, hi, hr, hs => by
   unfold zE
   rcases e:iC ws z [46] with⟨b,z1⟩
   obtain⟨h1,h2,h3⟩:=jD W hi (by decide) e
   cases b with
   | true =>
     obtain⟨k1,k2,k3⟩:=h2 rfl
     obtain⟨n1,n2,n3⟩:=tG W h1.lt
     have l1:=n1.le
     have l2:=n1.lt
     simp only
     rw[iB (by simp only[List.length_cons,List.length_nil]; omega),Option.bind_some,iB (by simp only[List.length_append,List.length_cons,List.length_nil]; omega),Option.bind_some]
     obtain⟨s',z',e1,e2,e3⟩:=KD W r (s:=s ++ ([46] ++ (cJ ws z1).1)) (z:=(cJ ws z1).2) l2 (by omega) (by simp only[List.length_append,List.length_cons,List.length_nil]; omega)
     refine⟨s',z',e1,(h1.trans n1).trans e2,?_⟩
     simp only[List.length_append,List.length_cons,List.length_nil] at e3
     have:=e2.le
     omega
   | false =>
     obtain rfl:=h3 rfl
     exact⟨s,z1,rfl,h1,by omega⟩
theorem GR {ws:List W}(W:Wf ws){R:Nat}(hR:3000<R){z:Z}(h:z.i<ws.length):
 ∃ s z',Bw ws R z=.some (s,z')∧Ad ws z z'∧(z'.e=0→z.i<z'.i)∧s.length≤2001 * (z'.i - z.i):=by
 obtain⟨n1,n2,n3⟩:=tG W h
 have hf:=W.Lo
 have l1:=n1.le
 have l2:=n1.lt
 obtain⟨s',z',e1,e2,e3⟩:=KD W R (s:=(cJ ws z).1) n1.lt (by omega) (by omega)
 have l3:=e2.le
 exact⟨s',z',e1,n1.trans e2,fun he=>by have:=n2 (e2.e0 he); omega,by omega⟩
theorem Gc {s:List UInt8}{n:Int}(h:rB s=.some n):-9223372036854775808≤n∧n≤9223372036854775807:=by
 unfold rB at h
 split at h
 ·rename_i v hv
  rw[Go.Lib.parseIntB_64] at hv
  obtain⟨h1,h2⟩:=bC h
  have:=Option.some.inj h2
  subst this
  exact Go.Lib.atoiAll_bounds hv
 ·cases h
def XF (i0:Nat)(z:Z)(e:Ex):Prop:=z.e=0→i0<z.i∧e.wt≤2500 * (z.i - i0)∧e.dp≤z.i - i0∧e.ok
theorem OX {v:Vl}(h:v.s.length≤2000)(hv:v.ok):(zR v).wt≤2100∧(zR v).dp=1∧(zR v).ok:=by
 refine⟨?_,rfl,hv,trivial⟩
 show 100+0+v.s.length+0+0≤2100
 omega
theorem Ns {ws : List W} (W : Wf ws) {z : Z} (h : z.i < ws.length) : ∃ e z', HF ws z = .some (e, z') ∧ Ad ws z z' ∧ XF z.i z' e := by
 unfold HF
 rcases e1:gQ ws z [78,85,76,76] with⟨b1,z1⟩
 obtain⟨h1,h2,h3⟩:=jD W h (by decide) e1
 have fin:∀{z2:Z} {v:Vl},Ad ws z z2→(z2.e=0→z.i<z2.i)→v.s.length≤2000→v.ok→Ad ws z (gJ z2)∧XF z.i (gJ z2) (zR v):=by
  intro z2 v hz hp hv oW
  obtain⟨c1,c2⟩:=tU hz.lt
  obtain⟨w1,w2,w3⟩:=OX hv oW
  refine⟨hz.trans c1,fun he=>?_⟩
  have:=hp (c1.e0 he)
  rw[c2]
  exact⟨this,by omega,by omega,w3⟩
 cases b1 with
 | true =>
   obtain⟨k1,k2,k3⟩:=h2 rfl
   obtain⟨f1,f2⟩:=fin h1 (fun _=>by omega) (v:=V0) (by decide) (fun h=>by cases h)
   exact⟨_,_,rfl,f1,f2⟩
 | false =>
   obtain rfl:=h3 rfl
   simp only
   rcases e2:gQ ws z1 [84,82,85,69] with⟨b2,z2⟩
   obtain⟨h4,h5,h6⟩:=jD W h (by decide) e2
   cases b2 with
   | true =>
     obtain⟨k1,k2,k3⟩:=h5 rfl
     obtain⟨f1,f2⟩:=fin h4 (fun _=>by omega) (v:=⟨1,true,0,[]⟩) (by decide) (fun h=>by cases h)
     exact⟨_,_,rfl,f1,f2⟩
   | false =>
     obtain rfl:=h6 rfl
     simp only
     rcases e3:gQ ws z2 [70,65,76,83,69] with⟨b3,z3⟩
     obtain⟨h7,h8,h9⟩:=jD W h (by decide) e3
     cases b3 with
     | true =>
       obtain⟨k1,k2,k3⟩:=h8 rfl
       obtain⟨f1,f2⟩:=fin h7 (fun _=>by omega) (v:=⟨1,false,0,[]⟩) (by decide) (fun h=>by cases h)
       exact⟨_,_,rfl,f1,f2⟩
     | false =>
       obtain rfl:=h9 rfl
       simp only
       by_cases he:z3.e=0
       ·rw[if_pos he]
        have hs:=W.short z3.i
        by_cases c3:(wd ws z3.i).1=3
        ·rw[if_pos c3]
         have hn:=W.num z3.i c3
         cases ep:rB (wd ws z3.i).2.1 with
         | none=>rw[ep] at hn; cases hn
         | some n =>
           obtain⟨f1,f2⟩:=fin (A9 W h he (by rw[c3]; decide)) (fun _=>Nat.lt_succ_self _) (v:=⟨2,false,n,[]⟩) (Nat.zero_le _) (fun _=>Gc ep)
           exact⟨_,_,rfl,f1,f2⟩
        ·rw[if_neg c3]
         by_cases c4:(wd ws z3.i).1=4
         ·rw[if_pos c4]
          obtain⟨f1,f2⟩:=fin (A9 W h he (by rw[c4]; decide)) (fun _=>Nat.lt_succ_self _) (v:=⟨3,false,0,(wd ws z3.i).2.1⟩) hs (fun h=>by cases h)
          exact⟨_,_,rfl,f1,f2⟩
         ·rw[if_neg c4]
          by_cases c5:(wd ws z3.i).1=5
          ·rw[if_pos c5]
           obtain⟨f1,f2⟩:=fin (A9 W h he (by rw[c5]; decide)) (fun _=>Nat.lt_succ_self _) (v:=⟨4,false,0,(wd ws z3.i).2.1⟩) hs (fun h=>by cases h)
           exact⟨_,_,rfl,f1,f2⟩
          ·rw[if_neg c5]
           exact⟨_,_,rfl,xD h,fun h=>absurd h (Ce (by decide))⟩
       ·rw[if_neg he]
        exact⟨_,_,rfl,Ad.refl h,fun h=>absurd h he⟩
end
end Go.Proofs.YthodfojhbbendaaDoor
end
section
set_option linter.all false
set_option maxRecDepth 100000
set_option maxHeartbeats 1000000
namespace Go.Proofs.YthodfojhbbendaaDoor
open Go Go.Ev
noncomputable section
structure Gd (ws:List W)(z:Z):Prop where
 lt:z.i<ws.length
 d0:0≤z.d
 d1:z.d≤25
 d2:z.e=0→z.d≤24
def Md (z:Z):Nat:=if z.e=0 then 10 * (26 - z.d.toNat) else 10
theorem Gd.of {ws:List W}{z z':Z}(h:Gd ws z)(a:Ad ws z z'):Gd ws z':=⟨a.lt,by rw[a.d]; exact h.d0,by rw[a.d]; exact h.d1,fun he=>by rw[a.d]; exact h.d2 (a.e0 he)⟩
theorem zS {ws:List W}{z z':Z}(h:Gd ws z)(a:Ad ws z z'):Md z'≤Md z:=by
 unfold Md
 by_cases he:z'.e=0
 ·rw[if_pos he,if_pos (a.e0 he),a.d]; exact Nat.le_refl _
 ·rw[if_neg he]
  split
  ·have:=h.d1
   have:=h.d0
   omega
  ·exact Nat.le_refl _
theorem Kz {ws:List W}{z:Z}(h:Gd ws z):10≤Md z:=by
 unfold Md
 split
 ·have:=h.d1
  have:=h.d0
  omega
 ·exact Nat.le_refl _
theorem Lk {ws:List W}{z:Z}(h:Gd ws z)(he:z.e=0):Gd ws (cS z)∧Md (cS z)+10≤Md z:=by
 obtain⟨a1,a2,a3,a4⟩:=J8 h.d0 h.d1
 have:=h.d0
 have:=h.d2 he
 refine⟨⟨by rw[a1]; exact h.lt,by omega,by omega,fun h0=>by have:=a4 h0; omega⟩,?_⟩
 unfold Md
 rw[if_pos he]
 split
 ·rw[a2]; omega
 ·omega
def EF (ws:List W)(z z':Z)(e:Ex):Prop:=Ad ws z z'∧XF z.i z' e
structure OF (ws:List W)(Q:Pr)(k:Nat):Prop where
 b:∀(rank:Int) (z:Z),0≤rank→rank≤6→Gd ws z→Md z+9≤k+rank.toNat→ ∃ e z',Q.b rank z=.some (e,z')∧EF ws z z' e
 n:∀ z:Z,Gd ws z→Md z+6≤k→ ∃ e z',Q.n z=.some (e,z')∧EF ws z z' e
 u:∀ z:Z,Gd ws z→Md z+2≤k→ ∃ e z',Q.u z=.some (e,z')∧EF ws z z' e
theorem O2 {s:List UInt8}{x y:Ex}:(EG s x y).wt=100+s.length+(x.wt+y.wt):=by
 show 100+s.length+0+(x.wt+(y.wt+0))+0=_
 omega
theorem OB {s:List UInt8}{x y:Ex}:(EG s x y).dp=max x.dp y.dp+1:=by
 show max x.dp (max y.dp 0)+1=_
 omega
theorem Fi {v:Vl}(h:v=V0):v.ok:=by subst h; intro h; cases h
theorem O1 {s:List UInt8}{x y:Ex}(h:x.ok)(k:y.ok):(EG s x y).ok:=⟨Fi rfl,h,k,trivial⟩
theorem Ht {k:Int}{x:Ex}:(FI k x).wt=100+x.wt:=by
 show 100+0+0+(x.wt+0)+0=_
 omega
theorem I8 {k:Int}{x:Ex}:(FI k x).dp=x.dp+1:=by
 show max x.dp 0+1=_
 omega
theorem H8 {k:Int}{x:Ex}(h:x.ok):(FI k x).ok:=⟨Fi rfl,h,trivial⟩
theorem L5 {ws : List W} {Q : Pr} {k : Nat} (W : Wf ws) (HQ : OF ws Q k) {rank : Int} (h0 : 0 ≤ rank) (h6 : rank < 6) : ∀ (r : Nat) {x : Ex} {z : Z} {i0 : Nat}, Gd ws z → 0 < r → (z.e = 0 → ws.length - z.i < r) → Md z + 8 ≤ k + rank.toNat → XF i0 z x → i0 ≤ z.i →
 ∃ e z',Bd ws Q rank r x z=.some (e,z')∧Ad ws z z'∧XF i0 z' e
 | 0,_,_,_,_,h,_,_,_,_=>by omega
 | r + 1, x, z, i0, hG, _, hr, hM, hx, hi => by
   unfold Bd
   by_cases he:z.e=0
   ·rw[if_pos he]
    by_cases hk:B3 (wd ws z.i).1 (wd ws z.i).2.1=rank
    ·rw[if_pos hk]
     have ht:=A9 W hG.lt he (Fq (by rw[hk]; exact h0))
     have hw:IntKind.wrap .i64 (rank+1)=rank+1:=wrap64 (by omega) (by omega)
     rw[hw]
     have hm:=zS hG ht
     have e1:(rank+1).toNat=rank.toNat+1:=by omega
     obtain⟨y,z2,q1,q2,q3⟩:=HQ.b (rank+1) (wK z) (by omega) (by omega) (hG.of ht) (by rw[e1]; omega)
     rw[q1,Option.bind_some]
     try dsimp only
     obtain⟨c1,c2⟩:=tU q2.lt
     have hA:Ad ws z (gJ z2):=(ht.trans q2).trans c1
     have hX:XF i0 (gJ z2) (EG (wd ws z.i).2.1 x y):=by
      intro h2
      have h3:=c1.e0 h2
      obtain⟨y1,y2,y3,y4⟩:=q3 h3
      obtain⟨x1,x2,x3,x4⟩:=hx he
      have hs:=W.short z.i
      have et:(wK z).i=z.i+1:=rfl
      rw[c2,O2,OB]
      exact⟨by omega,by omega,by omega,O1 x4 y4⟩
     have hl:z.i+1≤(gJ z2).i:=by rw[c2]; exact q2.le
     by_cases h3:rank=3
     ·simp only[h3,if_true]
      exact⟨_,_,rfl,hA,hX⟩
     ·simp only[h3,if_false]
      have hr0:=hr he
      have hlt:=hG.lt
      have hm2:=zS hG hA
      obtain⟨e,z',p1,p2,p3⟩:=L5 W HQ h0 h6 r (hG.of hA) (by omega) (fun _=>by omega) (by omega) hX (by omega)
      exact⟨e,z',p1,hA.trans p2,p3⟩
    ·rw[if_neg hk]
     exact⟨_,_,rfl,Ad.refl hG.lt,hx⟩
   ·rw[if_neg he]
    exact⟨_,_,rfl,Ad.refl hG.lt,hx⟩
theorem y7 {ws:List W}{Q:Pr}{k Rn:Nat}(W:Wf ws)(HQ:OF ws Q k)(hR:3000<Rn){rank:Int}(h0:0≤rank)(h6:rank≤6){z:Z}(hG:Gd ws z)(hM:Md z+9≤k+1+rank.toNat):
 ∃ e z',nF ws Q Rn rank z=.some (e,z')∧EF ws z z' e:=by
 unfold nF
 by_cases r6:rank=6
 ·rw[if_pos r6]
  exact HQ.u z hG (by subst r6; simp at hM; omega)
 ·rw[if_neg r6]
  by_cases r2:rank=2
  ·rw[if_pos r2]
   exact HQ.n z hG (by subst r2; simp at hM; omega)
  ·rw[if_neg r2]
   have hw:IntKind.wrap .i64 (rank+1)=rank+1:=wrap64 (by omega) (by omega)
   rw[hw]
   have e1:(rank+1).toNat=rank.toNat+1:=by omega
   obtain⟨x,z1,q1,q2,q3⟩:=HQ.b (rank+1) z (by omega) (by omega) hG (by rw[e1]; omega)
   rw[q1,Option.bind_some]
   try dsimp only
   have hf:=W.Lo
   have hm:=zS hG q2
   obtain⟨e,z',p1,p2,p3⟩:=L5 W HQ h0 (by omega) Rn (hG.of q2) (by omega) (fun _=>by omega) (by omega) q3 q2.le
   exact⟨e,z',p1,q2.trans p2,p3⟩
theorem Ou {ws : List W} {Q : Pr} {k Rn : Nat} (W : Wf ws) (HQ : OF ws Q k) (hR : 3000 < Rn) {z : Z} (hG : Gd ws z) (hM : Md z + 6 ≤ k + 1) : ∃ e z', Hr ws Q Rn z = .some (e, z') ∧ EF ws z z' e := by
 unfold Hr
 rcases e1:gQ ws z [78,79,84] with⟨b1,z1⟩
 obtain⟨h1,h2,h3⟩:=jD W hG.lt (by decide) e1
 cases b1 with
 | true =>
   obtain⟨k1,k2,k3⟩:=h2 rfl
   simp only
   have hG1:=hG.of h1
   obtain⟨i1,i2⟩:=Lk hG1 k2
   have hm:=zS hG h1
   obtain⟨x,z2,q1,q2,q3⟩:=HQ.n (cS z1) i1 (by omega)
   rw[q1,Option.bind_some]
   try dsimp only
   obtain⟨c1,c2⟩:=tU q2.lt
   have ho:=Ni hG1.d0 hG1.d1 (q2.trans c1)
   refine⟨_,_,rfl,h1.trans ho,fun he=>?_⟩
   have he2:z2.e=0:=c1.e0 he
   obtain⟨x1,x2,x3,x4⟩:=q3 he2
   have ei:(cS z1).i=z1.i:=JI
   have eo:(Dz (gJ z2)).i=z2.i:=c2
   rw[eo,Ht,I8]
   exact⟨by omega,by omega,by omega,H8 x4⟩
 | false =>
   obtain rfl:=h3 rfl
   simp only
   obtain⟨x,z2,q1,q2,q3⟩:=y7 W HQ hR (rank:=3) (by decide) (by decide) hG (by simp; omega)
   rw[q1,Option.bind_some]
   try dsimp only
   try dsimp only
   rcases e3:gQ ws z2 [73,83] with⟨b3,z3⟩
   obtain⟨h4,h5,h6⟩:=jD W q2.lt (by decide) e3
   cases b3 with
   | true =>
     obtain⟨k1,k2,k3⟩:=h5 rfl
     simp only
     rcases e4:gQ ws z3 [78,79,84] with⟨b4,z4⟩
     rw[show uZ ws z3 2 [78,79,84]=(b4,z4) from e4]
     try dsimp only
     obtain⟨h7,h8,h9⟩:=jD W h4.lt (by decide) e4
     obtain⟨m1,m2⟩:=oN (ws:=ws) (z:=z4) (k:=2) (s:=[78,85,76,76]) W h7.lt (by decide)
     obtain⟨c1,c2⟩:=tU m1.lt
     have hA:Ad ws z1 (gJ (dE ws z4 2 [78,85,76,76])):=(((q2.trans h4).trans h7).trans m1).trans c1
     cases b4 with
     | true =>
       obtain⟨k4,k5,k6⟩:=h8 rfl
       rw[if_pos rfl]
       obtain⟨c3,c4⟩:=tU c1.lt
       refine⟨_,_,rfl,hA.trans c3,fun he=>?_⟩
       have he2:=c1.e0 (c3.e0 he)
       have:=m2 he2
       obtain⟨x1,x2,x3,x4⟩:=q3 (h4.e0 (h7.e0 (m1.e0 he2)))
       rw[c4,c2,Ht,Ht,I8,I8]
       exact⟨by omega,by omega,by omega,H8 (H8 x4)⟩
     | false =>
       obtain rfl:=h9 rfl
       rw[if_neg (by decide)]
       refine⟨_,_,rfl,hA,fun he=>?_⟩
       have he2:=c1.e0 he
       have:=m2 he2
       obtain⟨x1,x2,x3,x4⟩:=q3 (h4.e0 (m1.e0 he2))
       rw[c2,Ht,I8]
       exact⟨by omega,by omega,by omega,H8 x4⟩
   | false =>
     obtain rfl:=h6 rfl
     exact⟨_,_,rfl,q2,q3⟩
theorem KA {ws:List W}(W:Wf ws){z:Z}(h:z.i<ws.length){n:Nat}:Ad ws z (nW ws z n):=by
 have hm:=(oN (ws:=ws) (z:=z) (k:=6) (s:=[44]) W h (by decide)).1
 unfold nW
 split
 ·split
  ·exact hm.trans (xD hm.lt)
  ·exact xD h
 ·split
  ·exact hm
  ·exact Ad.refl h
theorem CO:∀(l:List Ex) (e:Ex),F8 (l ++ [e])=F8 l+e.wt
 | [],e=>by simp[F8]
 | a :: l,e=>by simp only[List.cons_append,F8,CO l e]; omega
theorem C6:∀(l:List Ex) (e:Ex),FA (l ++ [e])=max (FA l) e.dp
 | [],e=>by simp[FA]
 | a :: l,e=>by simp only[List.cons_append,FA,C6 l e]; omega
theorem Bs:∀{l:List Ex} {e:Ex},Jo l→e.ok→Jo (l ++ [e])
 | [],e,_,h=>⟨h,trivial⟩
 | a :: l,e,h,k=>⟨h.1,Bs h.2 k⟩
theorem C7:∀(l:List (List UInt8)) (n:List UInt8),Cc (l ++ [n])=Cc l+n.length+20
 | [],n=>by simp[Cc]
 | a :: l,n=>by simp only[List.cons_append,Cc,C7 l n]; omega
def LF (i0:Nat)(z:Z)(l:List Ex)(ns:List (List UInt8)):Prop:=z.e=0→i0≤z.i∧F8 l+Cc ns≤2500 * (z.i - i0)∧FA l≤z.i - i0∧Jo l∧l.length≤z.i - i0∧ns.length≤z.i - i0
theorem Js {ws : List W} {Q : Pr} {k Rn : Nat} (W : Wf ws) (HQ : OF ws Q k) (hR : 3000 < Rn) {stop : List UInt8} : ∀ (r : Nat) {out : List Ex} {z : Z} {i0 : Nat}, Gd ws z → 0 < r → (z.e = 0 → ws.length - z.i < r) → Md z + 9 ≤ k + 1 → LF i0 z out [] →
 ∃ l z',yW ws Q Rn stop r out z=.some (l,z')∧Ad ws z z'∧LF i0 z' l []
 | 0,_,_,_,_,h,_,_,_=>by omega
 | r + 1, out, z, i0, hG, _, hr, hM, hx => by
   unfold yW
   by_cases he:z.e=0
   ·rw[if_pos he]
    rcases e1:iC ws z stop with⟨b1,z1⟩
    obtain⟨h1,h2,h3⟩:=jD W hG.lt (by decide) e1
    obtain⟨x0,x1,x2,x3,x4,x5⟩:=hx he
    cases b1 with
    | true =>
      obtain⟨k1,k2,k3⟩:=h2 rfl
      exact⟨_,_,rfl,h1,fun _=>⟨by omega,by omega,by omega,x3,by omega,by omega⟩⟩
    | false =>
      obtain rfl:=h3 rfl
      simp only
      have hc:=KA W hG.lt (n:=out.length) (z:=z1)
      have hm:=zS hG hc
      obtain⟨y,z5,q1,q2,q3⟩:=y7 W HQ hR (rank:=0) (by decide) (by decide) (hG.of hc) (by simp; omega)
      have hf:=W.Lo
      have hlt:=hG.lt
      rw[q1,Option.bind_some,if_pos (by unfold iT; omega)]
      have hA:=hc.trans q2
      have hm2:=zS hG hA
      have hcl:=hc.le
      have hr0:=hr he
      obtain⟨l,z',p1,p2,p3⟩:=Js W HQ hR r (out:=out ++ [y]) (z:=z5) (i0:=i0) (stop:=stop) (hG.of hA) (by omega) (fun h5=>by have:=(q3 h5).1; omega) (by omega) (fun h5=>by
       obtain⟨y1,y2,y3,y4⟩:=q3 h5
       rw[CO,C6,List.length_append]
       simp only[Cc,List.length_cons,List.length_nil] at *
       exact⟨by omega,by omega,by omega,Bs x3 y4,by omega,by omega⟩)
      exact⟨l,z',p1,hA.trans p2,p3⟩
   ·rw[if_neg he]
    exact⟨_,_,rfl,Ad.refl hG.lt,hx⟩
theorem JK {ws : List W} {Q : Pr} {k Rn : Nat} (W : Wf ws) (HQ : OF ws Q k) (hR : 3000 < Rn) {stop : List UInt8} : ∀ (r : Nat) {out : List Ex} {ns : List (List UInt8)} {z : Z} {i0 : Nat}, Gd ws z → 0 < r → (z.e = 0 → ws.length - z.i < r) → Md z + 9 ≤ k + 1 → LF i0 z out ns →
 ∃ l ns' z',yY ws Q Rn stop r out ns z=.some (l,ns',z')∧Ad ws z z'∧LF i0 z' l ns'
 | 0,_,_,_,_,_,h,_,_,_=>by omega
 | r + 1, out, ns, z, i0, hG, _, hr, hM, hx => by
   unfold yY
   by_cases he:z.e=0
   ·rw[if_pos he]
    rcases e1:iC ws z stop with⟨b1,z1⟩
    obtain⟨h1,h2,h3⟩:=jD W hG.lt (by decide) e1
    obtain⟨x0,x1,x2,x3,x4,x5⟩:=hx he
    cases b1 with
    | true =>
      obtain⟨k1,k2,k3⟩:=h2 rfl
      exact⟨_,_,_,rfl,h1,fun _=>⟨by omega,by omega,by omega,x3,by omega,by omega⟩⟩
    | false =>
      obtain rfl:=h3 rfl
      simp only
      have hc:=KA W hG.lt (n:=out.length) (z:=z1)
      obtain⟨n1,n2,n3⟩:=tG W hc.lt
      have hmu:=(oN (ws:=ws) (k:=6) (s:=[58]) W n1.lt (by decide)).1
      have hB:=(hc.trans n1).trans hmu
      have hm:=zS hG hB
      obtain⟨y,z5,q1,q2,q3⟩:=y7 W HQ hR (rank:=0) (by decide) (by decide) (hG.of hB) (by simp; omega)
      have hf:=W.Lo
      have hlt:=hG.lt
      rw[q1,Option.bind_some,if_pos (by unfold iT; omega)]
      have hA:=hB.trans q2
      have hm2:=zS hG hA
      have hcl:=hc.le
      have hnl:=n1.le
      have hul:=hmu.le
      have hr0:=hr he
      obtain⟨l,ns',z',p1,p2,p3⟩:=JK W HQ hR r (out:=out ++ [y]) (ns:=ns ++ [(cJ ws (nW ws z1 out.length)).1]) (z:=z5) (i0:=i0) (stop:=stop) (hG.of hA) (by omega) (fun h5=>by have:=(q3 h5).1; omega) (by omega) (fun h5=>by
       obtain⟨y1,y2,y3,y4⟩:=q3 h5
       have hn:=n2 (hmu.e0 (q2.e0 h5))
       rw[CO,C6,C7,List.length_append,List.length_append]
       simp only[List.length_cons,List.length_nil] at *
       exact⟨by omega,by omega,by omega,Bs x3 y4,by omega,by omega⟩)
      exact⟨l,ns',z',p1,hA.trans p2,p3⟩
   ·rw[if_neg he]
    exact⟨_,_,_,rfl,Ad.refl hG.lt,hx⟩
theorem CD {ws:List W}{z:Z}{k:Int}{s:List UInt8}(h:z.e≠0):uZ ws z k s=(false,z):=by
 unfold uZ
 rw[if_neg (fun hi=>h (Ee hi).1)]
theorem N7 {ws : List W} {Q : Pr} {k Rn : Nat} (W : Wf ws) (HQ : OF ws Q k) (hR : 3000 < Rn) {z : Z} (hG : Gd ws z) (hM : Md z + 2 ≤ k + 1) : ∃ e z', AA ws Q Rn z = .some (e, z') ∧ EF ws z z' e := by
 obtain⟨a1,a2,a3,a4⟩:=J8 hG.d0 hG.d1
 have hf:=W.Lo
 have hlt:=hG.lt
 have hi0:(cS z).i<ws.length:=by omega
 have fin:∀{e:Ex} {z2:Z},Ad ws (cS z) z2→XF z.i z2 e→EF ws z (Dz z2) e:=fun{e z2} h k=>⟨Ni hG.d0 hG.d1 h,k⟩
 unfold AA
 by_cases he:z.e=0
 ·obtain ⟨g1, g2⟩ := Lk hG he
  rcases e1:iC ws (cS z) [45] with⟨b1,z1⟩
  obtain⟨h1,h2,h3⟩:=jD W hi0 (by decide) e1
  cases b1 with
  | true =>
    obtain⟨k1,k2,k3⟩:=h2 rfl
    simp only
    have hm:=zS g1 h1
    obtain⟨x,z2,q1,q2,q3⟩:=HQ.u z1 (g1.of h1) (by omega)
    rw[q1,Option.bind_some]
    try dsimp only
    obtain⟨c1,c2⟩:=tU q2.lt
    refine⟨_,_,rfl,fin ((h1.trans q2).trans c1) fun h0=>?_⟩
    obtain⟨x1,x2,x3,x4⟩:=q3 (c1.e0 h0)
    rw[c2,Ht,I8]
    exact⟨by omega,by omega,by omega,H8 x4⟩
  | false =>
    obtain rfl:=h3 rfl
    simp only
    rcases e2:iC ws (cS z) [40] with⟨b2,z2⟩
    obtain⟨h4,h5,h6⟩:=jD W hi0 (by decide) e2
    cases b2 with
    | true =>
      obtain⟨k1,k2,k3⟩:=h5 rfl
      simp only
      have hm:=zS g1 h4
      obtain⟨x,z3,q1,q2,q3⟩:=y7 W HQ hR (rank:=0) (by decide) (by decide) (g1.of h4) (by simp; omega)
      rw[q1,Option.bind_some]
      try dsimp only
      obtain⟨m1,m2⟩:=oN (ws:=ws) (z:=z3) (k:=6) (s:=[41]) W q2.lt (by decide)
      refine⟨_,_,rfl,fin ((h4.trans q2).trans m1) fun h0=>?_⟩
      obtain⟨x1,x2,x3,x4⟩:=q3 (m1.e0 h0)
      have:=m1.le
      exact⟨by omega,by omega,by omega,x4⟩
    | false =>
      obtain rfl:=h6 rfl
      simp only
      rcases e3:iC ws (cS z) [91] with⟨b3,z3⟩
      obtain⟨h7,h8,h9⟩:=jD W hi0 (by decide) e3
      cases b3 with
      | true =>
        obtain⟨k1,k2,k3⟩:=h8 rfl
        simp only
        have hm:=zS g1 h7
        obtain⟨l,z4,q1,q2,q3⟩:=Js W HQ hR Rn (out:=[]) (z:=z3) (i0:=z3.i) (stop:=[93]) (g1.of h7) (by omega) (fun _=>by omega) (by omega) (fun _=>⟨Nat.le_refl _,Nat.zero_le _,Nat.zero_le _,trivial,Nat.zero_le _,Nat.zero_le _⟩)
        rw[q1,Option.bind_some]
        try dsimp only
        obtain⟨c1,c2⟩:=tU q2.lt
        refine⟨_,_,rfl,fin ((h7.trans q2).trans c1) fun h0=>?_⟩
        obtain⟨x0,x1,x2,x3,x4,x5⟩:=q3 (c1.e0 h0)
        rw[c2]
        refine⟨by omega,?_,?_,Fi rfl,x3⟩
        ·show 100+0+0+F8 l+0≤_
         simp only[Cc] at x1
         omega
        ·show FA l+1≤_
         omega
      | false =>
        obtain rfl:=h9 rfl
        simp only
        rcases e4:iC ws (cS z) [123] with⟨b4,z4⟩
        obtain⟨h10,Mf,h12⟩:=jD W hi0 (by decide) e4
        cases b4 with
        | true =>
          obtain⟨k1,k2,k3⟩:=Mf rfl
          simp only
          have hm:=zS g1 h10
          obtain⟨l,ns,z5,q1,q2,q3⟩:=JK W HQ hR Rn (out:=[]) (ns:=[]) (z:=z4) (i0:=z4.i) (stop:=[125]) (g1.of h10) (by omega) (fun _=>by omega) (by omega) (fun _=>⟨Nat.le_refl _,Nat.zero_le _,Nat.zero_le _,trivial,Nat.zero_le _,Nat.zero_le _⟩)
          rw[q1,Option.bind_some]
          try dsimp only
          obtain⟨c1,c2⟩:=tU q2.lt
          refine⟨_,_,rfl,fin ((h10.trans q2).trans c1) fun h0=>?_⟩
          obtain⟨x0,x1,x2,x3,x4,x5⟩:=q3 (c1.e0 h0)
          rw[c2]
          refine⟨by omega,?_,?_,Fi rfl,x3⟩
          ·show 100+0+0+F8 l+Cc ns≤_
           omega
          ·show FA l+1≤_
           omega
        | false =>
          obtain rfl:=h12 rfl
          simp only
          split
          ·obtain⟨s,z5,q1,q2,q3,q4⟩:=GR W hR hi0
           rw[q1,Option.bind_some]
           try dsimp only
           obtain⟨c1,c2⟩:=tU q2.lt
           refine⟨_,_,rfl,fin (q2.trans c1) fun h0=>?_⟩
           have:=q3 (c1.e0 h0)
           rw[c2]
           refine⟨by omega,?_,?_,Fi rfl,trivial⟩
           ·show 100+s.length+0+0+0≤_
            omega
           ·show 0+1≤_
            omega
          ·obtain⟨e,z5,q1,q2,q3⟩:=Ns W hi0
           rw[q1,Option.bind_some]
           try dsimp only
           refine⟨_,_,rfl,fin q2 fun h0=>?_⟩
           obtain⟨x1,x2,x3,x4⟩:=q3 h0
           exact⟨by omega,by omega,by omega,x4⟩
 ·have hb:=a3 he
  have b1:iC ws (cS z) [45]=(false,cS z):=CD hb
  have b2:iC ws (cS z) [40]=(false,cS z):=CD hb
  have b3:iC ws (cS z) [91]=(false,cS z):=CD hb
  have b4:iC ws (cS z) [123]=(false,cS z):=CD hb
  simp only[b1,b2,b3,b4]
  rw[if_neg (fun h=>hb h.2)]
  obtain⟨e,z5,q1,q2,q3⟩:=Ns W hi0
  rw[q1,Option.bind_some]
  try dsimp only
  refine⟨_,_,rfl,fin q2 fun h0=>?_⟩
  obtain⟨x1,x2,x3,x4⟩:=q3 h0
  exact⟨by omega,by omega,by omega,x4⟩
theorem Bu {ws:List W}(W:Wf ws){Rn:Nat}(hR:3000<Rn):∀ k,OF ws (pc ws Rn k) k
 | 0=>⟨(fun rank z _ _ h hm=>by have:=Kz h; omega),(fun z h hm=>by have:=Kz h; omega),(fun z h hm=>by have:=Kz h; omega)⟩
 | k+1=>⟨(fun rank z h0 h6 hG hM=>y7 W (Bu W hR k) hR h0 h6 hG hM),(fun z hG hM=>Ou W (Bu W hR k) hR hG hM),(fun z hG hM=>N7 W (Bu W hR k) hR hG hM)⟩
theorem IS {ws:List W}(W:Wf ws){R:Nat}(hR:3000<R){z:Z}(hG:Gd ws z):∃ e z',D0 ws R z=.some (e,z')∧EF ws z z' e:=by
 refine y7 W (Bu W hR 4000) hR (by decide) (by decide) hG ?_
 unfold Md
 split
 ·omega
 ·omega
end
end Go.Proofs.YthodfojhbbendaaDoor
end
