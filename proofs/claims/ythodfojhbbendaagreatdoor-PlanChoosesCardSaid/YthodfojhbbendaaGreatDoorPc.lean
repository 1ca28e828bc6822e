/- PlanChooses, part 3 of 11 of its proof (what is proved: whatever the text is, the law answers true; conditions: those each theorem states). Joined and shortened by a program. In order: EvL: Calls, operations, regions in their order. | EvM: A region that draws its order: whatever order is drawn, it comes to what the plan comes to | EvQ: A region that draws its order: the proof. | EvR: A region that draws its order: the walk. | EvS: A region that draws its order: the whole. | EvN: Code and calls: what the evaluator answers the model comes to. | EvNa: Results, deferred calls, rounds, calls. | EvW: The library's search for a byte in a string, as the evaluator takes it. | EvWa: The library's counts and comparisons of strings; exts in a row. | EvWb: A table of calls whose answers are known. | EvWc: maps.clone, as the evaluator takes it. | EvHa: Symbolic walks: the evaluator, led by hints: what is told, what is asked of it. | EvHb: Symbolic walks: operations by their operands' values answer alike. | EvHc: Symbolic walks: the evaluator, led by hints. -/
import Derived.Test.YthodfojhbbendaaGreatDoorPb
import Derived.TacticsIn
import Derived.RangeFuncIn
import Derived.OrdersIn
import Derived.LoopNIn
import Derived.Scope
import Derived.RangeFuncLeaves
import Derived.RangeFuncRecord
import Derived.DefersIn
import Derived.Lib.Bytealg
section
set_option linter.all false
namespace Go.Ev
open Go.RowKit (Below)
section
variable {W0:World}{G:Gh}{st:St}{w:World}
def ME (G:Gh)(st:St)(w:World):oK→Deferred→Prop
 | .call f a_,d=>∃ cap args:Array Value,d={ target:=.fn (.func f) cap,args }∧aT G st w a_ (args ++ cap).toList
 | .mark id,d=>∃ b k n,G.β id=some (b,k,n)∧d={ target:=.collected b,args:=#[] }
def mI (G:Gh)(st:St)(w:World):List oK→List Deferred→Prop
 | [],l=>l=[]
 | ad :: a_,l=>∃ d ds,l=d :: ds∧ME G st w ad d∧mI G st w a_ ds
theorem ME.mono {G':Gh}{st':St}{w':World}(L:Le G st w G' st' w'):∀{ad:oK} {d:Deferred},ME G st w ad d→ME G' st' w' ad d
 | .call _ _, _, h => by
   obtain⟨cap,args,rfl,h1⟩:=h
   exact⟨cap,args,rfl,aT.mono L _ _ h1⟩
 | .mark _, _, h => by
   obtain⟨b,k,n,h1,rfl⟩:=h
   exact⟨b,k,n,L.β _ _ h1,rfl⟩
theorem mI.mono {G':Gh}{st':St}{w':World}(L:Le G st w G' st' w'):∀{a_:List oK} {ds:List Deferred},mI G st w a_ ds→mI G' st' w' a_ ds
 | [],_,h=>h
 | ad :: a_, _, h => by
   obtain⟨d,ds,rfl,h1,h2⟩:=h
   exact⟨_,ds,rfl,ME.mono L h1,mI.mono L h2⟩
theorem mI.append:∀{a_ bs:List oK} {ds es:List Deferred},mI G st w a_ ds→mI G st w bs es→mI G st w (a_ ++ bs) (ds ++ es)
 | [], _, _, _, h, k => by
   simp only[mI] at h
   subst h
   exact k
 | ad :: a_, _, _, _, h, k => by
   obtain⟨d,ds,rfl,h1,h2⟩:=h
   exact⟨d,_,rfl,h1,mI.append h2 k⟩
structure B9 (G:Gh)(w:World)(fr:Fr)(a:Act):Prop where
 ts:aT G fr.st w fr.ts a.tmps.toList
 ds:mI G fr.st w fr.ds a.defers
structure oJ (W0:World)(G:Gh)(st:St)(w:World)(G':Gh)(st':St)(w':World):Prop where
 le:Le G st w G' st' w'
 Pe:sE G st G' st'
 inv:Inv W0 G' st' w'
theorem oJ.refl (I:Inv W0 G st w):oJ W0 G st w G st w:=⟨Le.refl _ _ _,sE.refl _ _,I⟩
theorem oJ.trans {G' G'':Gh}{st' st'':St}{w' w'':World}(h:oJ W0 G st w G' st' w')(k:oJ W0 G' st' w' G'' st'' w''):oJ W0 G st w G'' st'' w'':=
 ⟨h.le.trans k.le,h.Pe.trans h.le.next k.Pe,k.inv⟩
def wS (W0:World)(G:Gh)(st:St)(w:World)(k:AV→St→Bool):Ending→World→Prop:=fun e w'=>∃ u v st' G',e=.returned u∧k v st'=true∧oJ W0 G st w G' st' w'∧aV G' st' w' v u
def Fv (P : Program) (W0 : World) (ck : CK) : Prop :=
 ∀ f args st k, ck false f args st k = true → ∀ G w (vs : Array Value), Inv W0 G st w → aT G st w args vs.toList →
  (∃ u w' v st' G',(callFunc f vs).run P w=.ok (.value u) w'∧k false v st'=true∧oJ W0 G st w G' st' w'∧aV G' st' w' v u) ∨
  ((callFunc f vs).run P w = .ok (.enter f vs) w ∧ CallsIn Fence.wide 0 P f vs w (wS W0 G st w fun v st' => k true v st' || k false v st') ∧
    ((∀ v s,k false v s=false)→ ∀ u,CallsDIn Fence.wide 0 P f vs u w fun e u' w'=>u'=u∧wS W0 G st w (k true) e w'))
def xT (P : Program) (W0 : World) (ck : CK) : Prop :=
 ∀ l args st k, ck true l args st k = true → ∀ G w (vs : Array Value) b kk n, Inv W0 G st w → aT G st w args vs.toList → G.β l = some (b, kk, n) →
  ∃ g tmps asg body,(Instr.yield b vs).run P w=.ok (.round b g tmps asg body) w∧RoundIn Fence.wide 0 P b g tmps asg body w (wS W0 G st w (k false))
variable {P:Program}{C:AO}{ck:CK}{f:FuncId}
abbrev FR (ro:Option Nat):Fence:={ Fence.wide with round:=ro }
theorem At {ts:List AV}{a:Act}{dst:Option Tmp}{v:AV}{u:Value}(h:aT G st w ts a.tmps.toList)(hv:aV G st w v u):aT G st w (qR ts dst v) (a.put dst u).tmps.toList:=by
 cases dst with
 | none=>exact h
 | some d =>
   simp only[qR,Act.put,Array.toList_setIfInBounds]
   exact h.set d hv
theorem put_defers (a:Act)(dst:Option Tmp)(u:Value):(a.put dst u).defers=a.defers:=by cases dst <;> rfl
theorem JG (I:Inv W0 G st w){t:TypeId}{v r:AV}{u:Value}{name:String}{g:FuncId}{n:Nat}(hv:aV G st w v u)(h:methodOf P st t v name=some (g,r)):
 ∃ u',(method (n+1) t u name).run P w=.ok (g,u') w∧aV G st w r u':=by
 simp only[methodOf,Option.bind_eq_some_iff] at h
 obtain⟨i,hi,m,hm,h⟩:=h
 replace h:=b7 h
 obtain⟨hp,h⟩:=h
 simp only[Option.bind_eq_some_iff] at h
 obtain⟨⟨g',ptr⟩,hf,d,hd,h⟩:=h
 have hpath:m.path= #[]:=by simpa using hp
 simp only[method,typeInfo,Sem.run_bind,run_program,Result.andThen_ok,hi,Sem.run_pure,hm,hpath,follow,hf,receiverAt,run_underlying hd,Array.isEmpty_empty,if_true,Place.get]
 cases d <;> cases ptr <;> simp only at h ⊢
 all_goals first
  | (cases h; done)
  | skip
 all_goals first
  | (injection h with h; injection h with e1 e2; subst e1; subst e2
     exact⟨u,rfl,hv⟩)
  | skip
 all_goals split at h
 ·rename_i id off
  simp only[Option.bind_eq_some_iff] at h
  obtain⟨r',h1,h2⟩:=h
  injection h2 with h2; injection h2 with e1 e2; subst e1; subst e2
  obtain⟨r,r1,r2⟩:=Bt (P:=P) I hv h1
  simp only[aV] at hv
  obtain⟨b,k,n,hb,rfl⟩:=hv
  refine⟨r,?_,r2⟩
  have e3:∀(s1 s2:String) (e t:TypeId),(Builtin.ssaWrapNilChk_ #[t] e #[.pointer (some ⟨b,off,none⟩),strVal s1,strVal s2]).run P w=.ok (.pointer (some ⟨b,off,none⟩)) w:=fun _ _ _ _=>rfl
  simp only[Sem.run_bind,Sem.run_pure,Result.andThen_ok,e3]
  simp[Instr.loadAt,Instr.sureAddr,asAddr] at r1
  simp[asAddr,r1]
 ·cases h
theorem wK (ro:Option Nat)(ρ:Operand→Value)(o:Oper)(h:ro=none∨ ∀ c,o.op≠.defer c):o.semAt ro ρ=execOp ρ o:=by
 rcases h with rfl | h
 ·rfl
 ·exact Oper.semAt_eq ro ρ o h
theorem KA (hC:Fv C.P W0 ck)(I:Inv W0 G st w){ro:Option Nat}{a:Act}{o:Oper}{g:FuncId}{args:List AV}{vs:Array Value}{k:AV→St→Bool}{K:Act→World→Prop}{Q:Exit→Act→World→Prop}
 (hargs:aT G st w args vs.toList) (h:(ck false g args st fun _ v st'=>k v st')=true)
 (hK:∀ v st' u w' G',k v st'=true→oJ W0 G st w G' st' w'→aV G' st' w' v u→K (a.put o.dst u) w'):o.uponIn (FR ro) 0 C.P a K Q ((callFunc g vs).run C.P w):=by
 rcases hC _ _ _ _ h G w vs I hargs with⟨u,w',v,st',G',c1,c2,c3,c4⟩ | ⟨c1,c2,_⟩
 ·rw[c1]
  exact hK v st' u w' G' c2 c3 c4
 ·rw[c1]
  refine⟨fun h=>(by cases h),?_⟩
  refine CallsIn.mono (F:=FR ro) (n:=0) c2 fun e w' he=>?_
  obtain⟨u,v,st',G',rfl,h2,h3,h4⟩:=he
  simp only[Bool.or_self] at h2
  exact hK v st' u w' G' h2 h3 h4
theorem IG (hC : Fv C.P W0 ck) (hY : xT C.P W0 ck) (I : Inv W0 G st w) {ro rob : Option Nat} (hro : ro = none → rob = none) {ts : List AV} {a : Act} {o : Oper} {k : AV → List oK → St → Bool} {K : Act → World → Prop} {Q : Exit → Act → World → Prop}
 (hts:aT G st w ts a.tmps.toList) (h:y5 C ck f ro ts st o k=true)
 (hK:∀ v ds st' u w' G' dfs,k v ds st'=true→oJ W0 G st w G' st' w'→aV G' st' w' v u→mI G' st' w' ds dfs→K (({ a with defers:=dfs ++ a.defers }:Act).put o.dst u) w'):o.wpIn (FR rob) 0 C.P a w K Q:=by
 refine⟨fun _ _=>trivial,?_⟩
 show o.uponIn (FR rob) 0 C.P a K Q ((o.semAt rob a.eval).run C.P w)
 unfold y5 at h
 split at h
 case h_1 x args ats hop=>
  rw[wK rob _ o (.inr (by rw[hop]; simp))]
  split at h
  ·rename_i g first cap a_ hf has
   have hfr:=aV.cH hts hf
   have har:=aT.cU hts has
   simp only[aV] at hfr
   obtain⟨fs,cs,e,r1,r2⟩:=hfr
   have hrun:(execOp a.eval o).run C.P w=(callFunc g (fs ++ args.map a.eval ++ cs)).run C.P w:=by
    simp[execOp,hop,resolve,e,Deferred.ofValue,invoke]
   have hargs:aT G st w (first ++ a_ ++ cap) (fs ++ args.map a.eval ++ cs).toList:=by
    simp only[Array.toList_append,Array.toList_map]
    exact aT.append (aT.append r1 har) r2
   rw[hrun]
   exact KA hC I (k:=fun v st'=>k v [] st') hargs h fun v st' u w' G' h1 h2 h3=>by simpa using hK v [] st' u w' G' [] h1 h2 h3 rfl
  ·rename_i l a_ hf has
   have hfr:=aV.cH hts hf
   have har:=aT.cU hts has
   simp only[aV] at hfr
   obtain⟨b,kk,n,hb,e⟩:=hfr
   have hrun:(execOp a.eval o).run C.P w=(Instr.yield b (args.map a.eval)).run C.P w:=by
    simp[execOp,hop,resolve,e,Deferred.ofValue,invoke]
   rw[hrun]
   obtain⟨g,tmps,asg,body,c1,c2⟩:=hY l a_ st _ h G w (args.map a.eval) b kk n I (by simpa using har) hb
   rw[c1]
   refine⟨fun h=>(by cases h),?_⟩
   refine RoundIn.mono (F:=FR rob) (n:=0) c2 fun e w' he=>?_
   obtain⟨u,v,st',G',rfl,h2,h3,h4⟩:=he
   simpa using hK v [] st' u w' G' [] h2 h3 h4 rfl
  ·cases h
 case h_2 x name args ats hop=>
  rw[wK rob _ o (.inr (by rw[hop]; simp))]
  split at h
  ·rename_i t v a_ hf has
   have hfr:=aV.cH hts hf
   have har:=aT.cU hts has
   simp only[aV] at hfr
   obtain⟨u,e,r1⟩:=hfr
   split at h
   ·rename_i g r hm
    obtain⟨u',m1,m2⟩:=JG (n:=C.P.types.size+Made.depth - 1) I r1 hm
    have hrun:(execOp a.eval o).run C.P w=(callFunc g (#[u'] ++ args.map a.eval)).run C.P w:=by
     have e2:C.P.types.size+Made.depth - 1+1=C.P.types.size+Made.depth:=by simp[Made.depth]
     rw[e2] at m1
     have e3:(#[a.eval x] ++ args.map a.eval).extract 1 (#[a.eval x] ++ args.map a.eval).size=args.map a.eval:=by
            apply Array.ext'
            rw[Array.toList_extract]
            simp[List.extract_eq_take_drop,List.drop_append,List.take_append]
            exact List.take_of_length_le (by simp)
     simp only[execOp,hop,resolve,Sem.run_bind,Sem.run_pure,Result.andThen_ok,invoke]
     have e4:(#[a.eval x] ++ args.map a.eval)[0]? =some (a.eval x):=by
            rw[Array.getElem?_append_left (by simp)]
            rfl
     rw[e4]
     simp only[e3]
     rw[e]
     unfold callMethod
     simp only[Sem.run_bind,run_program,Result.andThen_ok,m1]
    have hargs:aT G st w (r :: a_) (#[u'] ++ args.map a.eval).toList:=by
     simp only[Array.toList_append,Array.toList_map]
     exact aT.cons m2 har
    rw[hrun]
    exact KA hC I (k:=fun v st'=>k v [] st') hargs h fun v st' u w' G' h1 h2 h3=>by simpa using hK v [] st' u w' G' [] h1 h2 h3 rfl
   ·cases h
  ·cases h
 case h_3 x args ats hop=>
  cases ro with
  | some l=>cases h
  | none=>
  have hrob:=hro rfl
  subst hrob
  simp only[Option.isSome_none,cond_false] at h
  split at h
  ·rename_i g first cap a_ hf has
   have hfr:=aV.cH hts hf
   have har:=aT.cU hts has
   simp only[aV] at hfr
   obtain⟨fs,cs,e,r1,r2⟩:=hfr
   have hrun:(execOp a.eval o).run C.P w=.ok (.defer { target:=.fn (.func g) cs,args:=fs ++ args.map a.eval }) w:=by
    simp[execOp,hop,resolve,e,Deferred.ofValue]
   rw[Oper.semAt_none,hrun,Oper.uponIn_defer]
   refine hK AV.undef _ st Go.undef w G [_] h (oJ.refl I) aV.undef ⟨_,[],rfl,⟨cs,fs ++ args.map a.eval,rfl,?_⟩,rfl⟩
   simp only[Array.toList_append,Array.toList_map]
   exact aT.append (aT.append r1 har) r2
  ·cases h
 case h_4 x s hop=>
  rw[wK rob _ o (.inr (by rw[hop]; simp))]
  split at h
  ·rename_i l hl
   simp only[Option.bind_eq_some_iff] at hl
   obtain⟨v,hv,hl⟩:=hl
   have hr:=aV.cH hts hv
   obtain⟨x',hx,r,w',G',k1,k2,k3,k4,k5⟩:=Ij (P:=C.P) (ty:=o.type) I hr hl
   have hrun:(execOp a.eval o).run C.P w=.ok (.value r) w':=by simp[execOp,hop,k1]
   rw[hrun,Oper.uponIn_value]
   simpa using hK x'.1 [] x'.2 r w' G' [] (List.all_eq_true.1 h _ hx) ⟨k2,k3,k4⟩ k5 rfl
  ·cases h
 case h_5 hn1 hn2 hn3 hn4=>
  split at h
  ·rename_i v st' h1
   have hd:∀ c,o.op≠.defer c:=fun c hc=>by
    revert h1
    unfold E7
    rw[hc]
    intro h1
    simp[lZ,u9] at h1
   rw[wK rob _ o (.inr hd)]
   obtain⟨n,u,w',G',k1,k2,k3,k4,k5,k6⟩:=LO I hts h1
   rw[k1]
   have:=hK v [] st' u w' G' [] h ⟨k3,k4,k5⟩ k6 rfl
   simp only[List.nil_append] at this
   rcases k2 with rfl | ⟨rfl,rfl⟩
   ·exact this
   ·exact this
  ·cases h
theorem pI {ops : Array Oper} {ts : List AV} {a : Act} {o : Oper} {b : Bool} (hts : aT G st w ts a.tmps.toList) (h : pR ops ts o = some b) : Region.wanted o (yielded ops a.tmps) = b := by
 unfold pR at h
 unfold Region.wanted
 split at h
 ·rename_i hg
  rw[hg]
  injection h
 ·rename_i j want hg
  rw[hg]
  split at h
  ·cases h
  ·rename_i d hd
   have ht:=hts.tmp d
   have hy:yielded ops a.tmps j=match a.tmps[d]? with | some (.bool b)=>some b | _=>none:=by
    unfold yielded
    rw[hd]
    rfl
   rw[Array.getD_eq_getD_getElem?] at ht
   split at h
   ·rename_i c hc
    rw[hc] at ht
    simp only[aV] at ht
    injection h with h
    subst h
    cases hx:a.tmps[d]? with
    | none=>rw[hx] at ht; simp[Go.undef] at ht
    | some x =>
      rw[hx] at ht
      simp only[Option.getD_some] at ht
      subst ht
      show(yielded ops a.tmps j == some want)=(c == want)
      rw[hy,hx]
      rfl
   ·rename_i l hc
    rw[hc] at ht
    simp only[aV] at ht
    obtain⟨vs,e,_⟩:=ht
    injection h with h
    subst h
    show(yielded ops a.tmps j == some want)=false
    rw[hy]
    cases hx:a.tmps[d]? with
    | none=>rfl
    | some x =>
      rw[hx] at e
      simp only[Option.getD_some] at e
      subst e
      rfl
   ·cases h
def cE.is:cE→Exit→Prop
 | .normal,e=>e=.normal
 | .exit i,e=>e=.exit i
 | .ret,e=>e=.ret
def IX (W0:World)(G:Gh)(st:St)(w:World)(k:cE→Fr→Bool):Exit→Act→World→Prop:=fun e a' w'=>
 ∃ x fr' G',x.is e∧k x fr'=true∧oJ W0 G st w G' fr'.st w'∧B9 G' w' fr' a'
theorem DJ (hC : Fv C.P W0 ck) (hY : xT C.P W0 ck) {ro rob : Option Nat} (hro : ro = none → rob = none) {ops : Array Oper} {Q : Exit → Act → World → Prop} : ∀ (l : List Oper) {k : Fr → Bool} {G : Gh} {w : World} {fr : Fr} {a : Act}, Inv W0 G fr.st w → B9 G w fr a →
 zZ C ck f ro ops l fr k=true→(∀ fr' G' a' w',k fr'=true→oJ W0 G fr.st w G' fr'.st w'→B9 G' w' fr' a'→Q .normal a' w')→wpListIn (FR rob) 0 C.P ops Q l a w
 | [], k, G, w, fr, a, I, hf, h, hQ => by
   simp only[zZ] at h
   exact hQ fr G a w h (oJ.refl I) hf
 | o :: l, k, G, w, fr, a, I, hf, h, hQ => by
   simp only[zZ,Ce] at h
   simp only[wpListIn]
   split at h
   ·rename_i hb
    rw[if_pos (pI hf.ts hb)]
    refine IG hC hY I hro hf.ts h fun v ds st' u w' G' dfs h1 hg hr hd=>?_
    refine DJ hC hY hro l hg.inv ⟨?_,?_⟩ h1 fun fr'' G'' a'' w'' h2 hg' hf'=>hQ fr'' G'' a'' w'' h2 (hg.trans hg') hf'
    ·exact At (a:={ a with defers:=dfs ++ a.defers }) (aT.mono hg.le _ _ hf.ts) hr
    ·rw[put_defers]
     exact mI.append hd (mI.mono hg.le hf.ds)
   ·rename_i hb
    rw[if_neg (by rw[pI hf.ts hb]; simp)]
    refine⟨fun _ _=>trivial,?_⟩
    refine DJ hC hY hro l (fr:=⟨qR fr.ts o.dst AV.undef,fr.ds,fr.st⟩) I ⟨?_,?_⟩ h hQ
    ·exact At hf.ts aV.undef
    ·rw[put_defers]
     exact hf.ds
   ·cases h
end
end Go.Ev
end
section
set_option linter.all false
namespace Go.Ev
open Go.RowKit (Below)
section
variable {P:Program}
def rJ (S:Nat→Prop)(o:Oper):Prop:=∀ e ∈ o.after,Region.binds .any e=true→S e.on
theorem rJ.mono {S S':Nat→Prop}{o:Oper}(h:rJ S o)(hs:∀ i,S i→S' i):rJ S' o:=fun e he hb=>hs _ (h e he hb)
inductive Bp (P:Program)(ops:Array Oper)(befs:List Nat):(Nat→Prop)→List rC→Prop
 | nil {S:Nat→Prop} (h:∀ i o,ops[i]? =some o→ ¬ S i→ ¬ rJ S o):Bp P ops befs S []
 | cons {S:Nat→Prop} {s:rC} {l:List rC} (ho:ops[s.i]? =some s.o) (hn:¬ S s.i) (hw:rJ S s.o) (he:s.cA=effect P s.o) (hb:s.Jm=befs.getD s.i 0)
  (hone:s.cA=true→ ∀ i o,ops[i]? =some o→ ¬ S i→rJ S o→i=s.i) (h:Bp P ops befs (fun j=>S j∨j=s.i) l):Bp P ops befs S (s :: l)
theorem Ah {ops:List Oper}{mask i:Nat}{o:Oper}:AK ops mask i o=true↔ ¬ mask.testBit i=true∧rJ (fun j=>mask.testBit j=true) o:=by
 simp only[AK,Bool.and_eq_true,Bool.not_eq_true',List.all_eq_true,Bool.or_eq_true,Bool.not_eq_true]
 constructor
 ·rintro⟨h1,h2⟩
  exact⟨h1,fun e he hb=>(h2 e (by simpa using he)).resolve_left (by simp[hb])⟩
 ·rintro⟨h1,h2⟩
  refine⟨h1,fun e he=>?_⟩
  cases hb:Region.binds .any e
  ·exact .inl rfl
  ·exact .inr (h2 e (by simpa using he) hb)
theorem tQ {ops : List Oper} {mask : Nat} {i : Nat} {o : Oper} : ∀ {l : List Oper} {k : Nat}, (i, o) ∈ readies ops mask l k ↔ ∃ m, l[m]? = some o ∧ i = k + m ∧ AK ops mask i o = true
 | [],k=>by simp[readies]
 | x :: l, k => by
   simp only[readies]
   have step:(∃ m,(x :: l)[m]? =some o∧i=k+m∧AK ops mask i o=true)↔(x=o∧i=k∧AK ops mask i o=true)∨ ∃ m,l[m]? =some o∧i=k+1+m∧AK ops mask i o=true:=by
    constructor
    ·rintro⟨m,h1,h2,h3⟩
     cases m with
     | zero=>simp at h1; exact .inl ⟨h1,by omega,h3⟩
     | succ m=>simp at h1; exact .inr ⟨m,h1,by omega,h3⟩
    ·rintro(⟨h1,h2,h3⟩ | ⟨m,h1,h2,h3⟩)
     ·exact⟨0,by simp[h1],by omega,h3⟩
     ·exact⟨m+1,by simpa using h1,by omega,h3⟩
   rw[step]
   cases hr:AK ops mask k x with
   | true =>
     simp only[cond_true,List.mem_cons,Prod.mk.injEq,tQ (l:=l) (k:=k+1)]
     constructor
     ·rintro(⟨rfl,rfl⟩ | h)
      ·exact .inl ⟨rfl,rfl,hr⟩
      ·exact .inr h
     ·rintro(⟨rfl,rfl,_⟩ | h)
      ·exact .inl ⟨rfl,rfl⟩
      ·exact .inr h
   | false =>
     simp only[cond_false,tQ (l:=l) (k:=k+1)]
     constructor
     ·exact fun h=>.inr h
     ·rintro(⟨rfl,rfl,h⟩ | h)
      ·rw[hr] at h; cases h
      ·exact h
theorem IY (mask i:Nat):(fun j=>(mask ||| 2 ^ i).testBit j=true)=fun j=>mask.testBit j=true∨j=i:=by
 funext j
 simp only[Nat.testBit_or,Bool.or_eq_true,Nat.testBit_two_pow,decide_eq_true_eq,eq_iff_iff]
 constructor
 ·rintro(h | h)
  ·exact .inl h
  ·exact .inr h.symm
 ·rintro(h | h)
  ·exact .inl h
  ·exact .inr h.symm
theorem La {ops : Array Oper} {befs : List Nat} : ∀ (n mask : Nat) (l : List rC), zN P ops.toList befs n mask = some l → Bp P ops befs (fun j => mask.testBit j = true) l := by
 have none_ready:∀{mask:Nat},readies ops.toList mask ops.toList 0=[]→Bp P ops befs (fun j=>mask.testBit j=true) []:=by
  intro mask h
  refine .nil fun i o ho hi hw=>?_
  have:(i,o) ∈ readies ops.toList mask ops.toList 0:=tQ.2 ⟨i,by simpa using ho,by omega,Ah.2 ⟨hi,hw⟩⟩
  rw[h] at this
  cases this
 intro n
 induction n with
 | zero =>
   intro mask l h
   simp only[zN] at h
   split at h
   ·injection h with h; subst h; exact none_ready (by assumption)
   ·cases h
 | succ n ih =>
   intro mask l h
   simp only[zN] at h
   have mem:∀{i o},(i,o) ∈ readies ops.toList mask ops.toList 0→ops[i]? =some o∧ ¬ mask.testBit i=true∧rJ (fun j=>mask.testBit j=true) o:=by
    intro i o hm
    obtain⟨m,h1,h2,h3⟩:=tQ.1 hm
    obtain⟨h4,h5⟩:=Ah.1 h3
    have:i=m:=by omega
    subst this
    exact⟨by simpa using h1,h4,h5⟩
   split at h
   ·rename_i i o hf
    simp only[Option.bind_eq_some_iff] at h
    obtain⟨l',h1,h2⟩:=h
    injection h2 with h2
    subst h2
    obtain⟨m1,m2,m3⟩:=mem (List.mem_of_find?_eq_some hf)
    have heff:=List.find?_some hf
    have ih':=ih _ _ h1
    rw[IY] at ih'
    exact .cons m1 m2 m3 (by simpa using heff.symm) rfl (fun h=>by cases h) ih'
   ·rename_i hrs
    injection h with h
    subst h
    exact none_ready hrs
   ·rename_i i o hf hrs
    simp only[Option.bind_eq_some_iff] at h
    obtain⟨l',h1,h2⟩:=h
    injection h2 with h2
    subst h2
    obtain⟨m1,m2,m3⟩:=mem (i:=i) (o:=o) (by rw[hrs]; simp)
    have heff:effect P o=true:=by
     rw[hrs] at hf
     simpa using hf
    have ih':=ih _ _ h1
    rw[IY] at ih'
    refine .cons m1 m2 m3 heff.symm rfl (fun _ i' o' ho' hi' hw'=>?_) ih'
    have:(i',o') ∈ readies ops.toList mask ops.toList 0:=tQ.2 ⟨i',by simpa using ho',by omega,Ah.2 ⟨hi',hw'⟩⟩
    rw[hrs] at this
    simp at this
    exact this.1
   ·cases h
theorem Ky (befs : List Nat) (o : Oper) (j : Nat) (h : (Ee befs o).testBit j = true) : ∃ e ∈ o.after, Region.binds .any e = true ∧ (e.on = j ∨ (befs.getD e.on 0).testBit j = true) := by
 unfold Ee at h
 have:∀(l:List Edge) (s:Nat),(l.foldl (fun s e=>if Region.binds .any e then s ||| 2 ^ e.on ||| befs.getD e.on 0 else s) s).testBit j=true→s.testBit j=true∨ ∃ e ∈ l,Region.binds .any e=true∧(e.on=j∨(befs.getD e.on 0).testBit j=true):=by
  intro l
  induction l with
  | nil=>intro s h; exact .inl h
  | cons e l ih =>
    intro s h
    simp only[List.foldl_cons] at h
    rcases ih _ h with h1 | ⟨e',h1,h2⟩
    ·split at h1
     ·rename_i hb
      simp only[Nat.testBit_or,Bool.or_eq_true,Nat.testBit_two_pow,decide_eq_true_eq] at h1
      rcases h1 with(h1 | h1) | h1
      ·exact .inl h1
      ·exact .inr ⟨e,by simp,hb,.inl h1⟩
      ·exact .inr ⟨e,by simp,hb,.inr h1⟩
     ·exact .inl h1
    ·exact .inr ⟨e',by simp[h1],h2⟩
 rcases this _ _ h with h1 | ⟨e,h1,h2⟩
 ·simp at h1
 ·exact⟨e,by simpa using h1,h2⟩
theorem KV {l:List Nat}{i j:Nat}(h:(l.getD i 0).testBit j=true):i<l.length:=by
 rcases Nat.lt_or_ge i l.length with h' | h'
 ·exact h'
 ·rw[List.getD_eq_getElem?_getD,List.getElem?_eq_none h'] at h
  simp at h
def wR (ops:List Oper)(befs:List Nat):Prop:=∀ i j,(befs.getD i 0).testBit j=true→ ∃ o,ops[i]? =some o∧ ∃ e ∈ o.after,Region.binds .any e=true∧(e.on=j∨e.on<i∧(befs.getD e.on 0).testBit j=true)
theorem GF:∀(l pre:List Oper) (acc:List Nat),acc.length=pre.length→wR (pre ++ l) acc→wR (pre ++ l) (DE l acc)
 | [],_,_,_,h=>by simpa[DE] using h
 | o :: l, pre, acc, hl, h => by
   simp only[DE]
   have e:pre ++ o :: l=(pre ++ [o]) ++ l:=by simp
   rw[e] at h ⊢
   refine GF l (pre ++ [o]) (acc ++ [Ee acc o]) (by simp[hl]) fun i j hb=>?_
   have hi:=KV hb
   simp only[List.length_append,List.length_singleton] at hi
   have low:∀ k,k<acc.length→(acc ++ [Ee acc o]).getD k 0=acc.getD k 0:=fun k hk=>by
    simp only[List.getD_eq_getElem?_getD]
    rw[List.getElem?_append_left hk]
   by_cases hlt:i<acc.length
   ·rw[low i hlt] at hb
    obtain⟨o',h1,e',h2,h3,h4⟩:=h i j hb
    refine⟨o',h1,e',h2,h3,h4.imp id fun⟨h5,h6⟩=>⟨h5,?_⟩⟩
    rw[low _ (by omega)]
    exact h6
   ·have hie:i=acc.length:=by omega
    subst hie
    have:(acc ++ [Ee acc o]).getD acc.length 0=Ee acc o:=by simp[List.getD_eq_getElem?_getD]
    rw[this] at hb
    obtain⟨e',h2,h3,h4⟩:=Ky acc o j hb
    refine⟨o,by rw[hl]; simp,e',h2,h3,h4.imp id fun h5=>?_⟩
    have:=KV h5
    exact⟨this,by rw[low _ this]; exact h5⟩
theorem Lz {ops:Array Oper}{befs:List Nat}(hb:wR ops.toList befs){S:Nat→Prop}(hd:∀ i o,S i→ops[i]? =some o→rJ S o):∀(i j:Nat),S i→(befs.getD i 0).testBit j=true→S j:=by
 intro i
 induction i using Nat.strongRecOn with
 | _ i ih =>
   intro j hi h
   obtain⟨o,ho,e,h1,h2,h3⟩:=hb i j h
   have hs:=hd i o hi (by simpa using ho) e h1 h2
   rcases h3 with rfl | ⟨h3,h4⟩
   ·exact hs
   ·exact ih _ h3 j hs h4
theorem IN {ops:Array Oper}{befs:List Nat}(hb:wR ops.toList befs){S:Nat→Prop}(hd:∀ i o,S i→ops[i]? =some o→rJ S o){i j:Nat}{o:Oper}(ho:ops[i]? =some o)(hw:rJ S o)
 (h:(befs.getD i 0).testBit j=true):S j:=by
 obtain⟨o',ho',e,h1,h2,h3⟩:=hb i j h
 have:o'=o:=by
  have:ops.toList[i]? =some o:=by simpa using ho
  rw[this] at ho'
  injection ho' with ho'
  exact ho'.symm
 subst this
 have hs:=hw e h1 h2
 rcases h3 with rfl | ⟨_,h4⟩
 ·exact hs
 ·exact Lz hb hd _ _ hs h4
theorem GR {l:List Nat}{n:Nat}:Gg l n=true↔n ∈ l:=by
 simp only[Gg,List.any_eq_true]
 constructor
 ·rintro⟨m,h1,h2⟩; rw[← Nat.eq_of_beq_eq_true h2]; exact h1
 ·exact fun h=>⟨n,h,by simp⟩
theorem Eg {ops : List Oper} {j : Nat} {oj : Oper} {Jm : Nat} : ∀ {l : List Oper} {k : Nat}, CL ops j oj Jm l k = true → ∀ m o, l[m]? = some o → k + m < j → EL ops o oj = true → Jm.testBit (k + m) = true
 | [],_,_,_,_,hm=>by simp at hm
 | x :: l, k, h, m, o, hm => by
   simp only[CL,Bool.and_eq_true,Bool.or_eq_true,Bool.not_eq_true'] at h
   intro hlt hc
   cases m with
   | zero =>
     simp at hm
     subst hm
     rcases h.1 with h1 | h1
     ·have h3:Nat.blt k j=true:=Nat.ble_eq_true_of_le (by omega)
      simp[h3,hc] at h1
     ·simpa using h1
   | succ m =>
     have:=Eg h.2 m o (by simpa using hm) (by omega) hc
     rwa [show k+1+m=k+(m+1) by omega] at this
theorem FK {ops:List Oper}{befs:List Nat}:∀{l:List Oper} {k:Nat},Ci ops befs l k=true→ ∀ m o,l[m]? =some o→CL ops (k+m) o (befs.getD (k+m) 0) ops 0=true
 | [],_,_,_,_,hm=>by simp at hm
 | x :: l, k, h, m, o, hm => by
   simp only[Ci,Bool.and_eq_true] at h
   cases m with
   | zero=>simp at hm; subst hm; exact h.1
   | succ m =>
     have:=FK h.2 m o (by simpa using hm)
     rwa [show k+1+m=k+(m+1) by omega] at this
def yB (ops:Array Oper)(befs:List Nat):Prop:=∀ i j oi oj,ops[i]? =some oi→ops[j]? =some oj→i≠j→ ∀ t,oi.dst=some t→(t ∈ AF ops.toList oj∨oj.dst=some t) →
 (befs.getD j 0).testBit i=true∨(befs.getD i 0).testBit j=true
theorem N1 {ops:Array Oper}{befs:List Nat}(h:Ci ops.toList befs ops.toList 0=true):yB ops befs:=by
 intro i j oi oj hi hj hne t ht hn
 have key:∀ i j oi oj,ops[i]? =some oi→ops[j]? =some oj→i<j→EL ops.toList oi oj=true→(befs.getD j 0).testBit i=true:=by
  intro i j oi oj hi hj hlt hc
  have:=Eg (FK h j oj (by simpa using hj)) i oi (by simpa using hi) (by omega) hc
  simpa using this
 have c1:EL ops.toList oi oj=true:=by
  simp only[EL,ht,Bool.or_eq_true]
  refine .inl ?_
  rcases hn with hn | hn
  ·exact .inl (GR.2 hn)
  ·exact .inr (by rw[hn]; simp)
 have c2:EL ops.toList oj oi=true:=by
  simp only[EL,ht,Bool.or_eq_true]
  rcases hn with hn | hn
  ·exact .inr (GR.2 hn)
  ·refine .inl ?_
   rw[hn]
   simp
 rcases Nat.lt_or_gt_of_ne hne with hlt | hlt
 ·exact .inl (key i j oi oj hi hj hlt c1)
 ·exact .inr (key j i oj oi hj hi hlt c2)
end
section
theorem JF {ts ts':List AV}{x:Operand}(h:∀ t,x=.tmp t→ts.getD t AV.undef=ts'.getD t AV.undef):cH ts x=cH ts' x:=by
 cases x with
 | tmp t=>simp only[cH,h t rfl]
 | _=>rfl
theorem lI {ts ts':List AV}:∀{xs:List Operand},(∀ x ∈ xs,cH ts x=cH ts' x)→cU ts xs=cU ts' xs
 | [],_=>rfl
 | x :: xs,h=>by simp only[cU,h x (by simp),lI (xs:=xs) fun y hy=>h y (List.mem_cons_of_mem _ hy)]
theorem Al {ts ts':List AV}:∀{ps:List (Nat×Operand)},(∀ x ∈ ps.map (·.2),cH ts x=cH ts' x)→qN ts ps=qN ts' ps
 | [],_=>rfl
 | (i,x) :: ps,h=>by simp only[qN,h x (by simp),Al fun y hy=>h y (by simp at hy ⊢; exact .inr hy)]
theorem Bo {ts ts':List AV}{x:Option Operand}(h:∀ y,x=some y→cH ts y=cH ts' y):Dn ts x=Dn ts' x:=by
 cases x with
 | none=>rfl
 | some y=>simp only[Dn,h y rfl]
theorem CR {P:Program}{ts ts':List AV}{op:Op}(h:∀ x ∈ op.operands.toList,cH ts x=cH ts' x):gC P ts op=gC P ts' op:=by
 cases op <;> simp only[Op.operands] at h <;> simp only[gC] <;> first | rfl | skip
 case build t ps=>rw[Al fun x hx=>h x (by simpa using hx)]
 case makeFunc fn first cap=>rw[lI (xs:=first.toList) fun x hx=>h x (by simp at hx ⊢; exact .inl hx),lI (xs:=cap.toList) fun x hx=>h x (by simp at hx ⊢; exact .inr hx)]
 case slice t x lo hi mx=>
  rw[h x (by simp),Bo (x:=lo) fun y hy=>h y (by subst hy; simp),Bo (x:=hi) fun y hy=>h y (by subst hy; simp),Bo (x:=mx) fun y hy=>h y (by subst hy; simp)]
 case call c=>
  obtain⟨cal,args,ats⟩:=c
  simp only[Call.operands] at h
  have:=lI (ts:=ts) (ts':=ts') (xs:=args.toList) fun x hx=>h x (by simp at hx ⊢; exact .inr hx)
  cases cal with
  | builtin b=>cases b <;> simp only[gC,this]
  | value f=>simp only[gC,this]
  | invoke r m=>simp only[gC,this]
 all_goals simp_all
theorem FT {P:Program}{b:Bool}{ts ts':List AV}{op:Op}(h:∀ x ∈ op.operands.toList,cH ts x=cH ts' x):Bl P b ts op=Bl P b ts' op:=by
 cases op <;> simp only[Op.operands] at h <;> simp only[Bl] <;> first | rfl | skip
 case buildSlice t n ps=>rw[Al fun x hx=>h x (by simpa using hx)]
 case makeMap t r=>
  cases r with
  | none=>rfl
  | some x=>simp only[h x (by simp)]
 all_goals simp_all
theorem HX {P:Program}{b:Bool}{ts ts':List AV}{st:St}{op:Op}(h:∀ x ∈ op.operands.toList,cH ts x=cH ts' x):u9 P b ts st op=u9 P b ts' st op:=by
 cases op <;> simp only[Op.operands] at h <;> simp only[u9] <;> first | rfl | skip
 case call c=>
  obtain⟨cal,args,ats⟩:=c
  simp only[Call.operands] at h
  have:=lI (ts:=ts) (ts':=ts') (xs:=args.toList) fun x hx=>h x (by simp at hx ⊢; exact .inr hx)
  cases cal with
  | builtin b=>cases b <;> simp only[u9,this]
  | value f=>rfl
  | invoke r m=>rfl
 all_goals simp_all
theorem Kz {C:AO}{f:FuncId}{ts ts':List AV}{st:St}{o:Oper}(h:∀ x ∈ o.op.operands.toList,cH ts x=cH ts' x):E7 C f ts st o=E7 C f ts' st o:=by
 unfold E7
 rw[CR h,FT h,HX h]
 rw[lI h]
theorem He {C:AO}{ck:CK}{f:FuncId}{ro:Option Nat}{ts ts':List AV}{st:St}{o:Oper}{k:AV→List oK→St→Bool}(h:∀ x ∈ o.op.operands.toList,cH ts x=cH ts' x):y5 C ck f ro ts st o k=y5 C ck f ro ts' st o k:=by
 unfold y5
 rw[Kz h]
 split
 ·rename_i x args ats hop
  rw[hop] at h
  simp only[Op.operands,Call.operands] at h
  rw[h x (by simp),lI (xs:=args.toList) fun y hy=>h y (by simp at hy ⊢; exact .inr hy)]
 ·rename_i x name args ats hop
  rw[hop] at h
  simp only[Op.operands,Call.operands] at h
  rw[h x (by simp),lI (xs:=args.toList) fun y hy=>h y (by simp at hy ⊢; exact .inr hy)]
 ·rename_i x args ats hop
  rw[hop] at h
  simp only[Op.operands,Call.operands] at h
  rw[h x (by simp),lI (xs:=args.toList) fun y hy=>h y (by simp at hy ⊢; exact .inr hy)]
 ·rename_i x s hop
  rw[hop] at h
  simp only[Op.operands] at h
  rw[h x (by simp)]
 ·rfl
theorem CA {ops : Array Oper} {ts ts' : List AV} {o : Oper} (h : ∀ t ∈ AF ops.toList o, ts.getD t AV.undef = ts'.getD t AV.undef) : pR ops ts o = pR ops ts' o := by
 unfold pR
 cases hg:o.guard with
 | none=>rfl
 | some gw =>
   obtain⟨g,b⟩:=gw
   simp only
   cases hd:(ops[g]?).bind (·.dst) with
   | none=>rfl
   | some d =>
     simp only
     rw[h d (List.mem_append_right _ (by
      have:(ops.toList[g]?).bind (·.dst)=some d:=by rw[← hd]; congr 1; exact Array.getElem?_toList
      rw[hg]
      simp only[this]
      exact List.mem_singleton_self d))]
theorem Bb {ops:List Oper}{ts ts':List AV}{o:Oper}(h:∀ t ∈ AF ops o,ts.getD t AV.undef=ts'.getD t AV.undef):∀ x ∈ o.op.operands.toList,cH ts x=cH ts' x:=fun x hx=>
 JF fun t ht=>h t (by
  subst ht
  exact List.mem_append_left _ (List.mem_filterMap.2 ⟨.tmp t,hx,rfl⟩))
end
end Go.Ev
end
section
set_option linter.all false
namespace Go.Ev
open Go.RowKit (Below)
mutual
theorem AV.BB:∀(a b:AV),AV.beq a b=true→a=b
 | .int k n, b, h => by
   cases b <;> simp only[AV.beq,Bool.and_eq_true,beq_iff_eq,Bool.false_eq_true] at h
   rw[h.1,h.2]
 | .bool x, b, h => by
   cases b <;> simp only[AV.beq,beq_iff_eq,Bool.false_eq_true] at h
   rw[h]
 | .str x, b, h => by
   cases b <;> simp only[AV.beq,qC,beq_iff_eq,Bool.false_eq_true] at h
   rw[h]
 | .zE,b,h=>by cases b <;> first | rfl | (simp only[AV.beq,Bool.false_eq_true] at h)
 | .ref i o, b, h => by
   cases b <;> simp only[AV.beq,Bool.and_eq_true,Nat.beq_eq,Bool.false_eq_true] at h
   rw[h.1,h.2]
 | .CV i o, b, h => by
   cases b <;> simp only[AV.beq,Bool.and_eq_true,Nat.beq_eq,Bool.false_eq_true] at h
   rw[h.1,h.2]
 | .pM x, b, h => by
   cases b <;> simp only[AV.beq,Bool.false_eq_true] at h
   rw[AV.qP _ _ h]
 | .aF,b,h=>by cases b <;> first | rfl | (simp only[AV.beq,Bool.false_eq_true] at h)
 | .sl i e n z c x, b, h => by
   cases b <;> simp only[AV.beq,Bool.and_eq_true,Nat.beq_eq,beq_iff_eq,Bool.false_eq_true] at h
   obtain⟨⟨⟨⟨⟨h1,h2⟩,h3⟩,h4⟩,h5⟩,h6⟩:=h
   rw[h1,h2,h3,h4,h5,AV.qP _ _ h6]
 | .sT,b,h=>by cases b <;> first | rfl | (simp only[AV.beq,Bool.false_eq_true] at h)
 | .yield i, b, h => by
   cases b <;> simp only[AV.beq,Nat.beq_eq,Bool.false_eq_true] at h
   rw[h]
 | .j9 i o n z c, b, h => by
   cases b <;> simp only[AV.beq,Bool.and_eq_true,Nat.beq_eq,beq_iff_eq,Bool.false_eq_true] at h
   obtain⟨⟨⟨⟨h1,h2⟩,h3⟩,h4⟩,h5⟩:=h
   rw[h1,h2,h3,h4,h5]
 | .B1,b,h=>by cases b <;> first | rfl | (simp only[AV.beq,Bool.false_eq_true] at h)
 | .map i, b, h => by
   cases b <;> simp only[AV.beq,Nat.beq_eq,Bool.false_eq_true] at h
   rw[h]
 | .func f x y, b, h => by
   cases b <;> simp only[AV.beq,Bool.and_eq_true,beq_iff_eq,Bool.false_eq_true] at h
   obtain⟨⟨h1,h2⟩,h3⟩:=h
   rw[h1,AV.qP _ _ h2,AV.qP _ _ h3]
 | .Dr,b,h=>by cases b <;> first | rfl | (simp only[AV.beq,Bool.false_eq_true] at h)
 | .iface t x, b, h => by
   cases b <;> simp only[AV.beq,Bool.and_eq_true,Nat.beq_eq,Bool.false_eq_true] at h
   rw[h.1,AV.BB _ _ h.2]
 | .B7,b,h=>by cases b <;> first | rfl | (simp only[AV.beq,Bool.false_eq_true] at h)
 | .agg x, b, h => by
   cases b <;> simp only[AV.beq,Bool.false_eq_true] at h
   rw[AV.qP _ _ h]
 | .tuple x, b, h => by
   cases b <;> simp only[AV.beq,Bool.false_eq_true] at h
   rw[AV.qP _ _ h]
 | .wF ..,b,h=>by cases b <;> simp only[AV.beq,Bool.false_eq_true] at h
 | .El ..,b,h=>by cases b <;> simp only[AV.beq,Bool.false_eq_true] at h
 | .any,b,h=>by cases b <;> simp only[AV.beq,Bool.false_eq_true] at h
theorem AV.qP:∀(a b:List AV),AV.uN a b=true→a=b
 | [],b,h=>by cases b <;> first | rfl | (simp only[AV.uN,Bool.false_eq_true] at h)
 | a :: a_, b, h => by
   cases b <;> simp only[AV.uN,Bool.and_eq_true,Bool.false_eq_true] at h
   rw[AV.BB _ _ h.1,AV.qP _ _ h.2]
end
structure eZ where
 s:rC
 v:AV
 made:Bool
 id:Nat
def n5 (p:eZ→Bool):List eZ→List AV→List AV
 | [],ts=>ts
 | x :: H,ts=>n5 p H (cond (p x) (qR ts x.s.o.dst x.v) ts)
theorem nB (p:eZ→Bool):∀(H K:List eZ) (ts:List AV),n5 p (H ++ K) ts=n5 p K (n5 p H ts)
 | [],_,_=>rfl
 | _ :: H,K,_=>nB p H K _
theorem xG {p q:eZ→Bool}:∀{H:List eZ} {ts:List AV},(∀ x ∈ H,p x=q x)→n5 p H ts=n5 q H ts
 | [],_,_=>rfl
 | x :: H, ts, h => by
   simp only[n5,h x (by simp)]
   exact xG fun y hy=>h y (List.mem_cons_of_mem _ hy)
theorem CQ {ts:List AV}{dst:Option Tmp}{v:AV}{t:Nat}(h:dst≠some t):(qR ts dst v).getD t AV.undef=ts.getD t AV.undef:=by
 cases dst with
 | none=>rfl
 | some d =>
   simp only[qR,List.getD_eq_getElem?_getD]
   rw[List.getElem?_set_ne (fun e=>h (by rw[e]))]
theorem Hk (ts:List AV)(dst:Option Tmp)(v:AV):(qR ts dst v).length=ts.length:=by cases dst <;> simp[qR]
theorem CE {p:eZ→Bool}{t:Nat}:∀{H:List eZ} {ts:List AV},(∀ x ∈ H,p x=true→x.s.o.dst≠some t)→(n5 p H ts).getD t AV.undef=ts.getD t AV.undef
 | [],_,_=>rfl
 | x :: H, ts, h => by
   simp only[n5]
   rw[CE fun y hy=>h y (List.mem_cons_of_mem _ hy)]
   cases hp:p x with
   | true=>exact CQ (h x (by simp) hp)
   | false=>rfl
theorem Dt {ts ts' : List AV} {dst : Option Tmp} {v : AV} {t : Nat} (hl : ts.length = ts'.length) (h : ts.getD t AV.undef = ts'.getD t AV.undef) :
 (qR ts dst v).getD t AV.undef=(qR ts' dst v).getD t AV.undef:=by
 cases dst with
 | none=>exact h
 | some d =>
   simp only[qR,List.getD_eq_getElem?_getD] at h ⊢
   by_cases hd:d=t
   ·subst hd
    rcases Nat.lt_or_ge d ts.length with hlt | hge
    ·rw[List.getElem?_set_self hlt,List.getElem?_set_self (by omega)]
    ·rw[List.set_eq_of_length_le hge,List.set_eq_of_length_le (by omega)]
     exact h
   ·rw[List.getElem?_set_ne hd,List.getElem?_set_ne hd]
    exact h
theorem uY {p q : eZ → Bool} {t : Nat} : ∀ {H : List eZ} {ts ts' : List AV}, ts.length = ts'.length → ts.getD t AV.undef = ts'.getD t AV.undef → (∀ x ∈ H, x.s.o.dst = some t → p x = q x) →
 (n5 p H ts).getD t AV.undef=(n5 q H ts').getD t AV.undef
 | [],_,_,_,h,_=>h
 | x :: H, ts, ts', hl, h, hx => by
   simp only[n5]
   refine uY ?_ ?_ fun y hy=>hx y (List.mem_cons_of_mem _ hy)
   ·cases p x <;> cases q x <;> simp[Hk,hl]
   ·by_cases hd:x.s.o.dst=some t
    ·rw[hx x (by simp) hd]
     cases q x with
     | true=>exact Dt hl h
     | false=>exact h
    ·have hc:∀(b:Bool) (l:List AV),(cond b (qR l x.s.o.dst x.v) l).getD t AV.undef=l.getD t AV.undef:=fun b l=>by
      cases b
      ·rfl
      ·exact CQ hd
     rw[hc,hc]
     exact h
theorem LW {ts:List AV}{d e:Option Tmp}{v u:AV}(h:∀ t,d=some t→e≠some t):qR (qR ts d v) e u=qR (qR ts e u) d v:=by
 cases d with
 | none=>rfl
 | some d =>
   cases e with
   | none=>rfl
   | some e =>
     simp only[qR]
     exact List.set_comm _ _ (fun he=>h d rfl (by rw[he]))
theorem GU {p:eZ→Bool}{d:Option Tmp}{v:AV}:∀{H:List eZ} {ts:List AV},(∀ x ∈ H,p x=true→ ∀ t,d=some t→x.s.o.dst≠some t)→n5 p H (qR ts d v)=qR (n5 p H ts) d v
 | [],_,_=>rfl
 | x :: H, ts, h => by
   simp only[n5]
   have:=GU (p:=p) (d:=d) (v:=v) (H:=H) (ts:=cond (p x) (qR ts x.s.o.dst x.v) ts) fun y hy=>h y (List.mem_cons_of_mem _ hy)
   rw[← this]
   cases hp:p x with
   | true =>
     simp only[cond_true]
     rw[LW (h x (by simp) hp)]
   | false=>rfl
def Is (H:List eZ)(i:Nat):Prop:=∃ x ∈ H,x.s.i=i
def Li (lst:Array Bool)(i:Nat):Prop:=lst.getD i false=true
def lq (lst:Array Bool)(x:eZ):Bool:=lst.getD x.s.i false
structure EB (ops:Array Oper)(lst:Array Bool)(H:List eZ):Prop where
 op:∀ x ∈ H,ops[x.s.i]? =some x.s.o
 nd:(H.map (·.s.i)).Nodup
 sub:∀ i,Li lst i→Is H i
 down:∀ i o,Li lst i→ops[i]? =some o→rJ (Li lst) o
 ord:∀ H1 x H2,H=H1 ++ x :: H2→rJ (Is H1) x.s.o
section
variable {ops:Array Oper}{lst:Array Bool}{H:List eZ}{befs:List Nat}
theorem EB.apart (h:EB ops lst H){H1 H2:List eZ}{x:eZ}(e:H=H1 ++ x :: H2):(∀ y ∈ H1,y.s.i≠x.s.i)∧(∀ y ∈ H2,y.s.i≠x.s.i)∧ ∀ y ∈ H2,¬ Is H1 y.s.i:=by
 have:=h.nd
 rw[e] at this
 simp only[List.map_append,List.map_cons,List.nodup_append,List.nodup_cons,List.mem_map,List.mem_cons] at this
 obtain⟨_,⟨a1,_⟩,a2⟩:=this
 refine⟨fun y hy e=>?_,fun y hy e=>a1 ⟨y,hy,e⟩,fun y hy ⟨z,hz,e⟩=>?_⟩
 ·exact a2 y.s.i ⟨y,hy,rfl⟩ x.s.i (.inl rfl) e
 ·exact a2 z.s.i ⟨z,hz,rfl⟩ y.s.i (.inr ⟨y,hy,rfl⟩) e
theorem EB.Ic (h:EB ops lst H){H1 H2:List eZ}(e:H=H1 ++ H2):∀ i o,Is H1 i→ops[i]? =some o→rJ (Is H1) o:=by
 rintro i o ⟨y,hy,rfl⟩ ho
 obtain⟨A,B,rfl⟩:=List.append_of_mem hy
 have:o=y.s.o:=by
  rw[h.op y (by rw[e]; simp)] at ho
  injection ho with ho
  exact ho.symm
 subst this
 refine(h.ord A y (B ++ H2) (by rw[e]; simp)).mono fun j ⟨z,hz,e⟩=>⟨z,by simp[hz],e⟩
theorem EB.zU (hb:wR ops.toList befs)(h:EB ops lst H){H1 H2:List eZ}{x:eZ}(e:H=H1 ++ x :: H2){j:Nat}(hj:(befs.getD x.s.i 0).testBit j=true):Is H1 j:=
 IN hb (h.Ic e) (h.op x (by rw[e]; simp)) (h.ord _ _ _ e) hj
theorem EB.Ei (hb:wR ops.toList befs)(h:EB ops lst H){i j:Nat}(hi:Li lst i)(hj:(befs.getD i 0).testBit j=true):Li lst j:=
 Lz hb h.down i j hi hj
theorem EB.DC (hb:wR ops.toList befs)(h:EB ops lst H){i j:Nat}{o:Oper}(ho:ops[i]? =some o)(hw:rJ (Li lst) o)(hj:(befs.getD i 0).testBit j=true):Li lst j:=
 IN hb h.down ho hw hj
theorem EB.names (hb : wR ops.toList befs) (ht : yB ops befs) (h : EB ops lst H) {H1 H2 : List eZ} {x : eZ} (e : H = H1 ++ x :: H2) (hn : ¬ Li lst x.s.i) (hw : rJ (Li lst) x.s.o) (ts : List AV) :
 ∀ t ∈ AF ops.toList x.s.o,(n5 (lq lst) H ts).getD t AV.undef=(n5 (fun _=>true) H1 ts).getD t AV.undef:=by
 intro t htn
 obtain⟨a1,a2,a3⟩:=h.apart e
 have hx:ops[x.s.i]? =some x.s.o:=h.op x (by rw[e]; simp)
 subst e
 rw[nB]
 have hlx:lq lst x=false:=by simpa[lq,Li] using hn
 have e1:n5 (lq lst) (x :: H2) (n5 (lq lst) H1 ts)=n5 (lq lst) H2 (n5 (lq lst) H1 ts):=by simp only[n5,hlx,cond_false]
 rw[e1,CE]
 ·refine uY rfl rfl fun y hy hd=>?_
  cases hl:lq lst y with
  | true=>rfl
  | false =>
    exfalso
    obtain⟨A,B,rfl⟩:=List.append_of_mem hy
    rcases ht y.s.i x.s.i _ _ (h.op y (by simp)) hx (a1 y hy) t hd (.inl htn) with h1 | h1
    ·have:Li lst y.s.i:=h.DC hb hx hw h1
     simp only[lq] at hl
     simp[Li,hl] at this
    ·obtain⟨z,hz,ez⟩:=h.zU hb (H1:=A) (x:=y) (H2:=B ++ x :: H2) (by simp) h1
     exact a1 z (by simp[hz]) ez
 ·intro y hy hl hd
  rcases ht y.s.i x.s.i _ _ (h.op y (by simp[hy])) hx (a2 y hy) t hd (.inl htn) with h1 | h1
  ·exact a3 y hy (h.zU hb rfl h1)
  ·exact hn (h.Ei hb hl h1)
theorem EB.writes (hb:wR ops.toList befs)(ht:yB ops befs)(h:EB ops lst H){H1 H2:List eZ}{x:eZ}(e:H=H1 ++ x :: H2)(hn:¬ Li lst x.s.i):
 ∀ y ∈ H2,lq lst y=true→ ∀ t,x.s.o.dst=some t→y.s.o.dst≠some t:=by
 intro y hy hl t hx hd
 obtain⟨a1,a2,a3⟩:=h.apart e
 have hxo:ops[x.s.i]? =some x.s.o:=h.op x (by rw[e]; simp)
 rcases ht y.s.i x.s.i _ _ (h.op y (by rw[e]; simp[hy])) hxo (a2 y hy) t hd (.inr hx) with h1 | h1
 ·exact a3 y hy (h.zU hb e h1)
 ·exact hn (h.Ei hb hl h1)
theorem EB.LL (hb:wR ops.toList befs)(ht:yB ops befs)(h:EB ops lst H){i:Nat}{o:Oper}(ho:ops[i]? =some o)(hn:¬ Is H i)(hw:rJ (Li lst) o)(ts:List AV):
 ∀ t ∈ AF ops.toList o,(n5 (lq lst) H ts).getD t AV.undef=(n5 (fun _=>true) H ts).getD t AV.undef:=by
 intro t htn
 refine uY rfl rfl fun y hy hd=>?_
 cases hl:lq lst y with
 | true=>rfl
 | false =>
   exfalso
   obtain⟨A,B,rfl⟩:=List.append_of_mem hy
   rcases ht y.s.i i _ _ (h.op y (by simp)) ho (fun e=>hn ⟨y,hy,e⟩) t hd (.inl htn) with h1 | h1
   ·have:Li lst y.s.i:=h.DC hb ho hw h1
    simp only[lq] at hl
    simp[Li,hl] at this
   ·obtain⟨z,hz,ez⟩:=h.zU hb (H1:=A) (x:=y) (H2:=B) rfl h1
    exact hn ⟨z,by simp[hz],ez⟩
end
end Go.Ev
end
section
set_option linter.all false
namespace Go.Ev
open Go.RowKit (Below)
section
variable {ops:Array Oper}{lst:Array Bool}{H:List eZ}
theorem Q6 {i:Nat}(h:¬ lst.getD i true=true):i<lst.size:=by
 rcases Nat.lt_or_ge i lst.size with h' | h'
 ·exact h'
 ·simp[Array.getElem?_eq_none h'] at h
theorem Gj {i:Nat}(h:lst.getD i true=false):i<lst.size∧ ¬ Li lst i:=by
 have h1:=Q6 (lst:=lst) (i:=i) (by simp[h])
 refine⟨h1,?_⟩
 simp only[Li]
 simp[h1] at h ⊢
 exact h
theorem B3 {i j:Nat}(h:i<lst.size):Li (lst.setIfInBounds i true) j↔Li lst j∨j=i:=by
 simp only[Li]
 by_cases hij:i=j
 ·subst hij
  simp[h]
 ·rw[getD_set_ne false hij]
  constructor
  ·exact .inl
  ·rintro(h | h)
   ·exact h
   ·exact absurd h.symm hij
theorem Im {i:Nat}{x:eZ}(h:x.s.i≠i):lq (lst.setIfInBounds i true) x=lq lst x:=getD_set_ne false (Ne.symm h)
theorem Jz {i:Nat}{x:eZ}(hi:i<lst.size)(h:x.s.i=i):lq (lst.setIfInBounds i true) x=true:=by
 subst h
 exact(B3 hi).2 (.inr rfl)
theorem EB.ID (h:EB ops lst H){x:eZ}(hx:ops[x.s.i]? =some x.s.o)(hn:¬ Is H x.s.i)(hw:rJ (Is H) x.s.o):EB ops lst (H ++ [x]) where
 op y hy:=by
  simp only[List.mem_append,List.mem_singleton] at hy
  rcases hy with hy | rfl
  ·exact h.op y hy
  ·exact hx
 nd:=by
  simp only[List.map_append,List.map_cons,List.map_nil,List.nodup_append]
  refine⟨h.nd,by simp,fun a ha b hb=>?_⟩
  simp only[List.mem_map,List.mem_singleton] at ha hb
  obtain⟨y,hy,rfl⟩:=ha
  subst hb
  exact fun e=>hn ⟨y,hy,e⟩
 sub i hi:=by
  obtain⟨y,hy,e⟩:=h.sub i hi
  exact⟨y,by simp[hy],e⟩
 down:=h.down
 ord H1 y H2 e := by
  rcases List.eq_nil_or_concat H2 with rfl | ⟨H3,z,rfl⟩
  ·have:=List.append_inj' e rfl
   obtain⟨rfl,e2⟩:=this
   injection e2 with e2
   subst e2
   exact hw
  ·rw[List.concat_eq_append] at e
   have:H ++ [x]=(H1 ++ y :: H3) ++ [z]:=by rw[e]; simp
   obtain⟨e1,_⟩:=List.append_inj' this rfl
   exact h.ord H1 y H3 e1
theorem EB.list (h:EB ops lst H){i:Nat}{o:Oper}(hi:i<lst.size)(hx:ops[i]? =some o)(hn:Is H i)(hw:rJ (Li lst) o):EB ops (lst.setIfInBounds i true) H where
 op:=h.op
 nd:=h.nd
 sub j hj:=by
  rcases(B3 hi).1 hj with h1 | rfl
  ·exact h.sub j h1
  ·exact hn
 down j o' hj ho:=by
  have up:∀ k,Li lst k→Li (lst.setIfInBounds i true) k:=fun k hk=>(B3 hi).2 (.inl hk)
  rcases(B3 hi).1 hj with h1 | rfl
  ·exact(h.down j o' h1 ho).mono up
  ·rw[hx] at ho
   injection ho with ho
   subst ho
   exact hw.mono up
 ord:=h.ord
theorem wZ {x y:eZ}{H1 H2:List eZ}(e:H ++ [x]=H1 ++ y :: H2):(H1=H∧y=x∧H2=[])∨ ∃ H3,H=H1 ++ y :: H3∧H2=H3 ++ [x]:=by
 rcases List.eq_nil_or_concat H2 with rfl | ⟨H3,z,rfl⟩
 ·obtain⟨rfl,e2⟩:=List.append_inj' e rfl
  injection e2 with e2
  exact .inl ⟨rfl,e2.symm,rfl⟩
 ·rw[List.concat_eq_append] at e ⊢
  have:H ++ [x]=(H1 ++ y :: H3) ++ [z]:=by rw[e]; simp
  obtain⟨e1,e2⟩:=List.append_inj' this rfl
  injection e2 with e2
  exact .inr ⟨H3,e1,by rw[e2]⟩
theorem count_set:∀(l:List Bool) (i:Nat),l[i]? =some false→(l.set i true).count false+1=l.count false
 | [],_,h=>by simp at h
 | b :: l, 0, h => by
   simp at h
   subst h
   simp
 | b :: l, i + 1, h => by
   simp at h
   have:=count_set l i (by simpa using h)
   simp only[List.set_cons_succ,List.count_cons]
   omega
end
section
variable {W0:World}{C:AO}{ck:CK}{f:FuncId}{ro:Option Nat}{k:Fr→Bool}{ops:Array Oper}
inductive Ki (C:AO)(f:FuncId)(ops:Array Oper)(G:Gh)(st:St)(rd:List Rd)(ts:List AV)(x:eZ):Prop
 | skip (hw:pR ops ts x.s.o=some false) (hv:x.v=AV.undef)
 | pure (hw:pR ops ts x.s.o=some true) (hk:lZ C.P x.s.o.op=.pure) (h:gC C.P ts x.s.o.op=some x.v)
 | load (hw:pR ops ts x.s.o=some true) (hk:lZ C.P x.s.o.op=.load) (vs:List AV) (hp:cU ts x.s.o.op.operands.toList=some vs) (hl:vA C.P st x.s.o.op vs=some x.v)
  (hr:∃ r ∈ rd,r.i=x.s.i∧r.op=x.s.o.op∧r.vs=vs∧r.v=x.v)
 | mk (hw:pR ops ts x.s.o=some true) (hk:lZ C.P x.s.o.op=.mk) (hm:x.made=true) (g:Nat→AV) (y:gS) (h:Bl C.P (C.cQ f) ts x.s.o.op=some (g,y)) (hv:x.v=g x.id)
  (hid:x.id<st.next) (hu:G.lM x.id) (ho:st.aS.get x.id=some y)
theorem Ki.mono {G G':Gh}{st st':St}{rd rd':List Rd}{ts:List AV}{x:eZ}(h:Ki C f ops G st rd ts x)
 (hl:∀ vs,vA C.P st x.s.o.op vs=some x.v→(∃ r ∈ rd,r.i=x.s.i∧r.op=x.s.o.op∧r.vs=vs∧r.v=x.v)→vA C.P st' x.s.o.op vs=some x.v∧ ∃ r ∈ rd',r.i=x.s.i∧r.op=x.s.o.op∧r.vs=vs∧r.v=x.v)
 (hm:x.made=true→x.id<st.next→G.lM x.id→x.id<st'.next∧G'.lM x.id∧st'.aS.get x.id=st.aS.get x.id):Ki C f ops G' st' rd' ts x:=by
 cases h with
 | skip hw hv=>exact .skip hw hv
 | pure hw hk h=>exact .pure hw hk h
 | load hw hk vs hp hld hr =>
   obtain⟨h1,h2⟩:=hl vs hld hr
   exact .load hw hk vs hp h1 h2
 | mk hw hk hmd g y h hv hid hu ho =>
   obtain⟨h1,h2,h3⟩:=hm hmd hid hu
   exact .mk hw hk hmd g y h hv h1 h2 (by rw[h3]; exact ho)
theorem Mp {G:Gh}{st:St}{w:World}(I:Inv W0 G st w)(o:gS)(id:Nat)(x:gS)(h:st.aS.get id=some x):(st.push o).aS.get id=some x:=by
 have:id<st.next:=by
  rcases Nat.lt_or_ge id st.next with h' | h'
  ·exact h'
  ·rw[I.fresh id h'] at h
   cases h
 simp only[St.push,Tr.bP]
 rw[if_neg (by omega),h]
section
variable {P:Program}{st st':St}(hs:∀ id x,st.aS.get id=some x→st'.aS.get id=some x)(ho:st'.old=st.old)
include hs ho
theorem Jg {p:AV}{n:Nat}{l:List AV}(h:tA st p n=some l):tA st' p n=some l:=by
 unfold tA at h ⊢
 split at h
 ·split at h
  ·rename_i hcs
   rw[hs _ _ hcs]
   exact h
  ·cases h
 ·exact h
 ·rw[ho]; exact h
 ·cases h
theorem Ir {t:TypeId}{p v:AV}(h:loadAt P st t p=some v):loadAt P st' t p=some v:=by
 simp only[loadAt,Option.bind_eq_some_iff] at h ⊢
 obtain⟨g,hg,n,hn,l,hl,h⟩:=h
 exact⟨g,hg,n,hn,l,Jg hs ho hl,h⟩
theorem EY {n:Nat}{v:AV}{m:Nat}{l:List AV}(h:eD st n v m=some l):eD st' n v m=some l:=by
 unfold eD at h ⊢
 split at h
 all_goals first
  | exact h
  | (cases h; done)
  | (rw[ho]; exact h)
  | skip
 all_goals
  split at h
  ·rename_i hcs
   rw[hs _ _ hcs]
   exact h
  ·cases h
theorem Gr {t:TypeId}{m k v:AV}{ok:Bool}(h:pG P st t m k ok=some v):pG P st' t m k ok=some v:=by
 simp only[pG,Option.bind_eq_some_iff] at h ⊢
 obtain⟨q,h1,es,h2,h3⟩:=h
 refine⟨q,h1,es,?_,h3⟩
 split at h2
 ·exact h2
 ·split at h2
  ·rename_i hcs
   rw[hs _ _ hcs]
   exact h2
  ·cases h2
 ·cases h2
theorem LC {op : Op} {vs : List AV} {v : AV} (h : vA P st op vs = some v) : vA P st' op vs = some v := by
 unfold vA at h ⊢
 split at h
 ·exact Ir hs ho h
 ·exact Gr hs ho h
 ·simp only[Option.bind_eq_some_iff] at h ⊢
  obtain⟨A,hA,B,hB,D,hD,h⟩:=h
  refine⟨A,hA,B,hB,D,hD,?_⟩
  unfold y8 at h ⊢
  split at h
  ·split at h
   ·rename_i hcs
    simp only[hs _ _ hcs]
    exact h
   ·rename_i o hno hoo
    simp only[hs _ _ hoo]
    exact h
   ·cases h
  ·exact h
 ·simp only[Option.bind_eq_some_iff] at h ⊢
  obtain⟨t,h1,d,h2,h⟩:=h
  refine⟨t,h1,d,h2,?_⟩
  split at h
  ·exact h
  ·split at h
   ·rename_i hcs
    rw[hs _ _ hcs]
    exact h
   ·cases h
  ·cases h
 ·simp only[Option.bind_eq_some_iff] at h ⊢
  obtain⟨t,h1,d,h2,h⟩:=h
  refine⟨t,h1,d,h2,?_⟩
  split at h
  ·split at h
   ·exact h
   ·split at h
    ·rename_i hcs
     rw[hs _ _ hcs]
     exact h
    ·cases h
   ·cases h
  ·split at h
   ·exact h
   ·split at h
    ·rename_i hcs
     rw[hs _ _ hcs]
     exact h
    ·cases h
   ·cases h
  ·simp only[Option.bind_eq_some_iff] at h ⊢
   obtain⟨ed,h3,h⟩:=h
   refine⟨ed,h3,?_⟩
   split at h
   ·simp only[Option.bind_eq_some_iff] at h ⊢
    obtain⟨n,h4,cs,h5,h⟩:=h
    exact⟨n,h4,cs,EY hs ho h5,h⟩
   ·cases h
  ·cases h
 ·cases h
end
theorem MT {ts:List AV}{st st':St}{o:Oper}{v:AV}(he:effect C.P o=false)(h:E7 C f ts st o=some (v,st')):
 (lZ C.P o.op=.pure∧gC C.P ts o.op=some v∧st'=st) ∨
  (lZ C.P o.op=.load∧ ∃ vs,cU ts o.op.operands.toList=some vs∧vA C.P st o.op vs=some v∧st'=st) ∨
  (lZ C.P o.op=.mk∧ ∃ g y,Bl C.P (C.cQ f) ts o.op=some (g,y)∧v=g st.next∧st'=st.push y):=by
 unfold E7 at h
 split at h
 ·rename_i hk
  simp only[Option.bind_eq_some_iff] at h
  obtain⟨u,hu,h⟩:=h
  injection h with h; injection h with e1 e2; subst e1; subst e2
  exact .inl ⟨hk,hu,rfl⟩
 ·rename_i hk
  simp only[Option.bind_eq_some_iff] at h
  obtain⟨p,hp,u,hu,h⟩:=h
  injection h with h; injection h with e1 e2; subst e1; subst e2
  exact .inr (.inl ⟨hk,p,hp,hu,rfl⟩)
 ·rename_i hk
  simp only[Option.bind_eq_some_iff] at h
  obtain⟨⟨g,y⟩,hu,h⟩:=h
  injection h with h; injection h with e1 e2; subst e1; subst e2
  exact .inr (.inr ⟨hk,g,y,hu,rfl,rfl⟩)
 ·rename_i hk
  simp[effect,hk] at he
structure BQ (W0:World)(C:AO)(f:FuncId)(ops:Array Oper)(G0:Gh)(st0:St)(w0:World)(ts0:List AV)(H:List eZ)(lst:Array Bool)(rd:List Rd)(fr:Fr)(G:Gh)(a:Act)(w:World):Prop where
 A9:EB ops lst H
 wJ:oJ W0 G0 st0 w0 G fr.st w
 ts:fr.ts=n5 (fun _=>true) H ts0
 rep:aT G fr.st w (n5 (lq lst) H ts0) a.tmps.toList
 ds:mI G fr.st w fr.ds a.defers
 Ig:∀ H1 x H2,H=H1 ++ x :: H2→ ¬ Li lst x.s.i→Ki C f ops G fr.st rd (n5 (fun _=>true) H1 ts0) x
 ids:∀ x ∈ H,∀ y ∈ H,x.made=true→y.made=true→x.s.i≠y.s.i→x.id≠y.id
 Aw:∀ x ∈ H,x.made=true→st0.next≤x.id∧x.id<fr.st.next
 size:lst.size=ops.size
variable {G0:Gh}{st0:St}{w0:World}{ts0:List AV}{H:List eZ}{lst:Array Bool}{rd:List Rd}{fr:Fr}{G:Gh}{a:Act}{w:World}
theorem LJ (hg:oJ W0 G0 st0 w0 G fr.st w)(y:gS):oJ W0 G fr.st w G (fr.st.push y) w:=⟨Le.push hg.inv y,sE.push y,hg.inv.push y⟩
theorem BQ.ID (D : BQ W0 C f ops G0 st0 w0 ts0 H lst rd fr G a w) {s : rC} {l : List rC} (he : s.cA = false) (hef : s.cA = effect C.P s.o) (hs : ops[s.i]? = some s.o) (hn : ¬ Is H s.i) (hw : rJ (Is H) s.o)
 (h:jK C ck f ro ops (s :: l) rd fr k=true):
 ∃ x rd' fr1,x.s=s∧jK C ck f ro ops l rd' fr1 k=true∧BQ W0 C f ops G0 st0 w0 ts0 (H ++ [x]) lst rd' fr1 G a w:=by
 simp only[jK] at h
 have hnl:¬ Li lst s.i:=fun hl=>hn (D.A9.sub _ hl)
 have reput:∀(x:eZ),x.s=s→n5 (lq lst) (H ++ [x]) ts0=n5 (lq lst) H ts0:=fun x hx=>by
  rw[nB]
  have:lq lst x=false:=by simpa[lq,Li,hx] using hnl
  simp only[n5,this,cond_false]
 have tput:∀(x:eZ),x.s=s→qR fr.ts s.o.dst x.v=n5 (fun _=>true) (H ++ [x]) ts0:=fun x hx=>by
  rw[nB,← D.ts]
  simp only[n5,cond_true,hx]
 split at h
 ·cases h
 ·rename_i hb
  refine⟨⟨s,AV.undef,false,0⟩,rd,_,rfl,h,?_⟩
  exact {
   A9:=D.A9.ID (x:=⟨s,AV.undef,false,0⟩) hs hn hw
   wJ:=D.wJ
   ts:=tput ⟨s,AV.undef,false,0⟩ rfl
   rep:=by rw[reput _ rfl]; exact D.rep
   ds:=D.ds
   Ig:=fun H1 y H2 e hy=>by
    rcases wZ e with⟨rfl,rfl,rfl⟩ | ⟨H3,e1,_⟩
    ·rw[← D.ts]; exact .skip hb rfl
    ·exact D.Ig H1 y H3 e1 hy
   ids := fun y hy z hz my mz => by
    simp only[List.mem_append,List.mem_singleton] at hy hz
    rcases hy with hy | rfl
    ·rcases hz with hz | rfl
     ·exact D.ids y hy z hz my mz
     ·cases mz
    ·cases my
   Aw:=fun y hy my=>by
    simp only[List.mem_append,List.mem_singleton] at hy
    rcases hy with hy | rfl
    ·exact D.Aw y hy my
    ·cases my
   size:=D.size }
 ·rename_i hb
  rw[he] at h
  simp only at h
  split at h
  rotate_left
  ·cases h
  rename_i v st' hd
  rcases MT (hef ▸ he) hd with⟨k1,k2,rfl⟩ | ⟨k1,vs,k2,k3,rfl⟩ | ⟨k1,g,y0,k2,rfl,rfl⟩
  ·refine⟨⟨s,v,false,0⟩,_,_,rfl,h,?_⟩
   exact {
    A9:=D.A9.ID (x:=⟨s,v,false,0⟩) hs hn hw
    wJ:=D.wJ
    ts:=tput ⟨s,v,false,0⟩ rfl
    rep:=by rw[reput _ rfl]; exact D.rep
    ds:=D.ds
    Ig:=fun H1 y H2 e hy=>by
     rcases wZ e with⟨rfl,rfl,rfl⟩ | ⟨H3,e1,_⟩
     ·rw[← D.ts]; exact .pure hb k1 k2
     ·exact(D.Ig H1 y H3 e1 hy).mono (fun _ h1 ⟨r,hr,h2⟩=>⟨h1,r,List.mem_append_right _ hr,h2⟩) fun _ h1 h2=>⟨h1,h2,rfl⟩
    ids := fun y hy z hz my mz => by
     simp only[List.mem_append,List.mem_singleton] at hy hz
     rcases hy with hy | rfl
     ·rcases hz with hz | rfl
      ·exact D.ids y hy z hz my mz
      ·cases mz
     ·cases my
    Aw:=fun y hy my=>by
     simp only[List.mem_append,List.mem_singleton] at hy
     rcases hy with hy | rfl
     ·exact D.Aw y hy my
     ·cases my
    size:=D.size }
  ·refine⟨⟨s,v,false,0⟩,_,_,rfl,h,?_⟩
   exact {
    A9:=D.A9.ID (x:=⟨s,v,false,0⟩) hs hn hw
    wJ:=D.wJ
    ts:=tput ⟨s,v,false,0⟩ rfl
    rep:=by rw[reput _ rfl]; exact D.rep
    ds:=D.ds
    Ig:=fun H1 y H2 e hy=>by
     rcases wZ e with⟨rfl,rfl,rfl⟩ | ⟨H3,e1,_⟩
     ·rw[← D.ts]
      exact .load hb k1 vs k2 k3 ⟨⟨s.i,s.o.op,vs,v⟩,List.mem_append_left _ (by simp[OC,k1,k2]),rfl,rfl,rfl,rfl⟩
     ·exact(D.Ig H1 y H3 e1 hy).mono (fun _ h1 ⟨r,hr,h2⟩=>⟨h1,r,List.mem_append_right _ hr,h2⟩) fun _ h1 h2=>⟨h1,h2,rfl⟩
    ids := fun y hy z hz my mz => by
     simp only[List.mem_append,List.mem_singleton] at hy hz
     rcases hy with hy | rfl
     ·rcases hz with hz | rfl
      ·exact D.ids y hy z hz my mz
      ·cases mz
     ·cases my
    Aw:=fun y hy my=>by
     simp only[List.mem_append,List.mem_singleton] at hy
     rcases hy with hy | rfl
     ·exact D.Aw y hy my
     ·cases my
    size:=D.size }
  ·refine ⟨⟨s, g fr.st.next, true, fr.st.next⟩, _, _, rfl, h, ?_⟩
   have gp:=LJ D.wJ y0
   exact {
    A9:=D.A9.ID (x:=⟨s,g fr.st.next,true,fr.st.next⟩) hs hn hw
    wJ:=D.wJ.trans gp
    ts:=tput ⟨s,g fr.st.next,true,fr.st.next⟩ rfl
    rep:=by rw[reput _ rfl]; exact aT.mono gp.le _ _ D.rep
    ds:=mI.mono gp.le D.ds
    Ig:=fun H1 y H2 e hy=>by
     rcases wZ e with⟨rfl,rfl,rfl⟩ | ⟨H3,e1,_⟩
     ·rw[← D.ts]
      exact .mk hb k1 rfl g y0 k2 rfl (by simp[St.push]) (xX D.wJ.inv) (CC _)
     ·exact(D.Ig H1 y H3 e1 hy).mono (fun _ h1 ⟨r,hr,h2⟩=>⟨LC (Mp D.wJ.inv _) rfl h1,r,List.mem_append_right _ hr,h2⟩) fun _ h1 h2=>⟨Nat.lt_of_lt_of_le h1 gp.le.next,h2,(gp.Pe _ h1 h2).1⟩
    ids := fun y hy z hz my mz => by
     simp only[List.mem_append,List.mem_singleton] at hy hz
     rcases hy with hy | rfl
     ·rcases hz with hz | rfl
      ·exact D.ids y hy z hz my mz
      ·intro _
       have:=(D.Aw y hy my).2
       simp only
       omega
     ·rcases hz with hz | rfl
      ·intro _
       have:=(D.Aw z hz mz).2
       simp only
       omega
      ·exact fun h=>absurd rfl h
    Aw:=fun y hy my=>by
     simp only[List.mem_append,List.mem_singleton] at hy
     rcases hy with hy | rfl
     ·have:=D.Aw y hy my
      exact⟨this.1,Nat.lt_of_lt_of_le this.2 gp.le.next⟩
     ·exact⟨D.wJ.le.next,by simp[St.push]⟩
    size:=D.size }
end
end Go.Ev
end
section
set_option linter.all false
namespace Go.Ev
open Go.RowKit (Below)
section
variable {W0:World}{C:AO}{ck:CK}{f:FuncId}{ro rob:Option Nat}{k:Fr→Bool}{ops:Array Oper}{befs:List Nat}
variable {G0:Gh}{st0:St}{w0:World}{ts0:List AV}{H:List eZ}{lst:Array Bool}{rd:List Rd}{fr:Fr}{G:Gh}{a:Act}{w:World}
theorem BQ.done (D:BQ W0 C f ops G0 st0 w0 ts0 H lst rd fr G a w)(hb:wR ops.toList befs)(ht:yB ops befs){H1 H2:List eZ}{x:eZ}(e:H=H1 ++ x :: H2)(hn:¬ Li lst x.s.i)(hi:x.s.i<lst.size)
 (hw:rJ (Li lst) x.s.o) {G':Gh} {w':World} {u:Value} (L:Le G fr.st w G' fr.st w') (I':Inv W0 G' fr.st w') (hu:∀ id,(x.made=true→id≠x.id)→G.lM id→G'.lM id) (hr:aV G' fr.st w' x.v u):
 BQ W0 C f ops G0 st0 w0 ts0 H (lst.setIfInBounds x.s.i true) rd fr G' (a.put x.s.o.dst u) w' where
 A9:=D.A9.list hi (D.A9.op x (by rw[e]; simp)) ⟨x,by rw[e]; simp,rfl⟩ hw
 wJ:=by
  refine⟨D.wJ.le.trans L,fun id h1 h2=>?_,I'⟩
  obtain⟨h3,h4⟩:=D.wJ.Pe id h1 h2
  refine⟨h3,hu id (fun hm he=>?_) h4⟩
  have:=(D.Aw x (by rw[e]; simp) hm).1
  omega
 ts:=D.ts
 rep := by
  have hlx:lq lst x=false:=by simpa[lq,Li] using hn
  obtain⟨a1,a2,_⟩:=D.A9.apart e
  have e1:n5 (lq (lst.setIfInBounds x.s.i true)) H ts0=qR (n5 (lq lst) H ts0) x.s.o.dst x.v:=by
   rw[e,nB,nB]
   simp only[n5,hlx,cond_false,Jz hi rfl,cond_true]
   rw[xG (H:=H1) fun y hy=>Im (a1 y hy),xG (H:=H2) fun y hy=>Im (a2 y hy)]
   exact GU fun y hy hl t hd=>D.A9.writes hb ht e hn y hy hl t hd
  rw[e1]
  exact At (aT.mono L _ _ D.rep) hr
 ds:=by
  rw[put_defers]
  exact mI.mono L D.ds
 Ig J1 y J2 e' hy:=by
  have hne:y.s.i≠x.s.i:=fun h=>hy ((B3 hi).2 (.inr h))
  have hy':¬ Li lst y.s.i:=fun h=>hy ((B3 hi).2 (.inl h))
  refine(D.Ig J1 y J2 e' hy').mono (fun _ h1 h2=>⟨h1,h2⟩) fun hm h1 h2=>⟨h1,hu _ (fun hx=>?_) h2,rfl⟩
  exact D.ids y (by rw[e']; simp) x (by rw[e]; simp) hm hx hne
 ids:=D.ids
 Aw:=D.Aw
 size:=by simpa using D.size
theorem Dq {c x:Bool}(h:cond c x false=true):c=true∧x=true:=by
 cases c
 ·cases h
 ·exact⟨rfl,h⟩
theorem Bv {P:Program}{o:Oper}(h:lZ P o.op≠.cA):∀ c,o.op≠.defer c:=fun c hc=>h (by rw[hc]; rfl)
theorem BQ.late (D:BQ W0 C f ops G0 st0 w0 ts0 H lst rd fr G a w)(hb:wR ops.toList befs)(ht:yB ops befs){Q:Exit→Act→World→Prop}{K:Act→World→Prop}{H1 H2:List eZ}{x:eZ}(e:H=H1 ++ x :: H2)
 (hn:¬ Li lst x.s.i) (hi:x.s.i<lst.size) (hw:rJ (Li lst) x.s.o)
 (hK:∀ G' a' w',BQ W0 C f ops G0 st0 w0 ts0 H (lst.setIfInBounds x.s.i true) rd fr G' a' w'→K a' w'):wpOpIn (FR rob) 0 C.P ops Q x.s.i K a w:=by
 have hx:=D.A9.op x (by rw[e]; simp)
 have same:=D.A9.names hb ht e hn hw ts0
 have I:=D.wJ.inv
 have wc:=CA (ops:=ops) (o:=x.s.o) same
 have oc:=Bb (ops:=ops.toList) (o:=x.s.o) same
 unfold wpOpIn
 rw[hx]
 simp only
 cases D.Ig H1 x H2 e hn with
 | skip hwt hv =>
   rw[if_neg (by rw[pI D.rep (wc.trans hwt)]; simp)]
   refine⟨fun _ _=>trivial,?_⟩
   refine hK G _ w (D.done hb ht e hn hi hw (Le.refl _ _ _) I (fun _ _ h=>h) ?_)
   rw[hv]
   exact aV.undef
 | pure hwt hk h =>
   rw[if_pos (pI D.rep (wc.trans hwt))]
   obtain⟨r,r1,r2⟩:=CS (w:=w) D.rep hk ((CR oc).trans h)
   refine⟨fun _ _=>trivial,?_⟩
   show x.s.o.uponIn (FR rob) 0 C.P a K Q ((x.s.o.semAt rob a.eval).run C.P w)
   rw[wK rob _ _ (.inr (Bv (by rw[hk]; simp))),r1,Oper.uponIn_value]
   exact hK G _ w (D.done hb ht e hn hi hw (Le.refl _ _ _) I (fun _ _ h=>h) r2)
 | load hwt hk vs hp hl hr =>
   rw[if_pos (pI D.rep (wc.trans hwt))]
   have hp':cU (n5 (lq lst) H ts0) x.s.o.op.operands.toList=some vs:=(lI oc).trans hp
   obtain⟨r,r1,r2⟩:=DQ I (aT.cU D.rep hp') hl
   refine⟨fun _ _=>trivial,?_⟩
   show x.s.o.uponIn (FR rob) 0 C.P a K Q ((x.s.o.semAt rob a.eval).run C.P w)
   rw[wK rob _ _ (.inr (Bv (by rw[hk]; simp))),r1,Oper.uponIn_value]
   exact hK G _ w (D.done hb ht e hn hi hw (Le.refl _ _ _) I (fun _ _ h=>h) r2)
 | mk hwt hk hm g y h hv hid hu ho =>
   rw[if_pos (pI D.rep (wc.trans hwt))]
   obtain⟨r,w',G',r1,r2,r3,r4,r5⟩:=EW I D.rep hk ((FT oc).trans h) hid hu ho
   refine⟨fun _ _=>trivial,?_⟩
   show x.s.o.uponIn (FR rob) 0 C.P a K Q ((x.s.o.semAt rob a.eval).run C.P w)
   rw[wK rob _ _ (.inr (Bv (by rw[hk]; simp))),r1,Oper.uponIn_value]
   refine hK G' _ w' (D.done hb ht e hn hi hw r2 r4 (fun id h1 h2=>r3 id (h1 hm) h2) ?_)
   rw[hv]
   exact r5
theorem BQ.JO (hC : Fv C.P W0 ck) (hY : xT C.P W0 ck) (hro : ro = none → rob = none) (D : BQ W0 C f ops G0 st0 w0 ts0 H lst rd fr G a w) (hb : wR ops.toList befs) (ht : yB ops befs) {Q : Exit → Act → World → Prop} {K : Act → World → Prop} {s : rC} {l : List rC}
 (he:s.cA=true) (hbf:s.Jm=befs.getD s.i 0) (hs:ops[s.i]? =some s.o) (hn:¬ Is H s.i) (hi:s.i<lst.size) (hw:rJ (Li lst) s.o)
 (h:jK C ck f ro ops (s :: l) rd fr k=true)
 (hK:∀ x rd' fr1 G' a' w',x.s=s→jK C ck f ro ops l rd' fr1 k=true→BQ W0 C f ops G0 st0 w0 ts0 (H ++ [x]) (lst.setIfInBounds s.i true) rd' fr1 G' a' w'→K a' w'):wpOpIn (FR rob) 0 C.P ops Q s.i K a w:=by
 have same:=D.A9.LL hb ht hs hn hw ts0
 rw[← D.ts] at same
 have I:=D.wJ.inv
 have wc:=CA (ops:=ops) (o:=s.o) same
 have oc:=Bb (ops:=ops.toList) (o:=s.o) same
 have hnl:¬ Li lst s.i:=fun hl=>hn (D.A9.sub _ hl)
 have hwi:rJ (Is H) s.o:=hw.mono fun i hi=>D.A9.sub i hi
 simp only[jK] at h
 have hne:∀ y ∈ H,y.s.i≠s.i:=fun y hy e=>hn ⟨y,hy,e⟩
 have tput:∀(x:eZ),x.s=s→qR fr.ts s.o.dst x.v=n5 (fun _=>true) (H ++ [x]) ts0:=fun x hx=>by
  rw[nB,← D.ts]
  simp only[n5,cond_true,hx]
 have rput:∀(x:eZ),x.s=s→n5 (lq (lst.setIfInBounds s.i true)) (H ++ [x]) ts0=qR (n5 (lq lst) H ts0) s.o.dst x.v:=fun x hx=>by
  rw[nB,xG (H:=H) fun y hy=>Im (hne y hy)]
  simp only[n5,Jz hi (show x.s.i=s.i by rw[hx]),cond_true,hx]
 have hok':∀(x:eZ),x.s=s→EB ops (lst.setIfInBounds s.i true) (H ++ [x]):=fun x hx=>by
  subst hx
  exact(D.A9.ID hs hn hwi).list hi hs ⟨x,by simp,rfl⟩ hw
 have ids':∀(x:eZ),x.made=false→ ∀ y ∈ H ++ [x],∀ z ∈ H ++ [x],y.made=true→z.made=true→y.s.i≠z.s.i→y.id≠z.id:=fun x hx y hy z hz my mz=>by
  simp only[List.mem_append,List.mem_singleton] at hy hz
  rcases hy with hy | rfl
  ·rcases hz with hz | rfl
   ·exact D.ids y hy z hz my mz
   ·rw[hx] at mz; cases mz
  ·rw[hx] at my; cases my
 have idlt':∀(x:eZ),x.made=false→ ∀ y ∈ H ++ [x],y.made=true→st0.next≤y.id∧y.id<fr.st.next:=fun x hx y hy my=>by
  simp only[List.mem_append,List.mem_singleton] at hy
  rcases hy with hy | rfl
  ·exact D.Aw y hy my
  ·rw[hx] at my; cases my
 have old:∀(x:eZ),x.s=s→ ∀{H1 y H2},H ++ [x]=H1 ++ y :: H2→ ¬ Li (lst.setIfInBounds s.i true) y.s.i→ ∃ H3,H=H1 ++ y :: H3∧ ¬ Li lst y.s.i:=fun x hx H1 y H2 e hy=>by
  rcases wZ e with⟨rfl,rfl,rfl⟩ | ⟨H3,e1,_⟩
  ·exact absurd ((B3 hi).2 (.inr (by rw[hx]))) hy
  ·exact⟨H3,e1,fun h=>hy ((B3 hi).2 (.inl h))⟩
 unfold wpOpIn
 rw[hs]
 simp only
 split at h
 ·cases h
 ·rename_i hbw
  rw[if_neg (by rw[pI D.rep (wc.trans hbw)]; simp)]
  refine⟨fun _ _=>trivial,?_⟩
  refine hK ⟨s,AV.undef,false,0⟩ rd _ G _ w rfl h ?_
  exact{
   A9:=hok' _ rfl
   wJ:=D.wJ
   ts:=tput ⟨s,AV.undef,false,0⟩ rfl
   rep:=by rw[rput _ rfl]; exact At D.rep aV.undef
   ds:=by rw[put_defers]; exact D.ds
   Ig:=fun H1 y H2 e hy=>by
    obtain⟨H3,e1,h1⟩:=old _ rfl e hy
    exact D.Ig H1 y H3 e1 h1
   ids:=ids' _ rfl
   Aw:=idlt' _ rfl
   size:=by simpa using D.size }
 ·rename_i hbw
  rw[he] at h
  simp only at h
  rw[if_pos (pI D.rep (wc.trans hbw))]
  refine IG hC hY I hro D.rep ((He oc).trans h) fun v ds st' u w' G' dfs h1 hg hr hdf=>?_
  obtain⟨hall,h⟩:=Dq h1
  refine hK ⟨s,v,false,0⟩ _ _ G' _ w' rfl h ?_
  exact {
   A9:=hok' _ rfl
   wJ:=D.wJ.trans hg
   ts:=tput ⟨s,v,false,0⟩ rfl
   rep:=by
    rw[rput _ rfl]
    exact At (a:={ a with defers:=dfs ++ a.defers }) (aT.mono hg.le _ _ D.rep) hr
   ds:=by
    rw[put_defers]
    exact mI.append hdf (mI.mono hg.le D.ds)
   Ig := fun H1 y H2 e hy => by
    obtain⟨H3,e1,h1⟩:=old _ rfl e hy
    refine(D.Ig H1 y H3 e1 h1).mono (fun vs hl ⟨r,hr,r1,r2,r3,r4⟩=>?_) fun _ i1 i2=>⟨Nat.lt_of_lt_of_le i1 hg.le.next,(hg.Pe _ i1 i2).2,(hg.Pe _ i1 i2).1⟩
    have hnb:s.Jm.testBit r.i=false:=by
     cases hbb:s.Jm.testBit r.i with
     | false=>rfl
     | true =>
       rw[hbf,r1] at hbb
       exact absurd (D.A9.DC hb hs hw hbb) h1
    have hm:r ∈ rd.filter fun r=>!s.Jm.testBit r.i:=List.mem_filter.2 ⟨hr,by simp[hnb]⟩
    have hsr:=List.all_eq_true.1 hall r hm
    simp only[Gn] at hsr
    rw[r2,r3,r4] at hsr
    refine⟨?_,r,hm,r1,r2,r3,r4⟩
    split at hsr
    ·rename_i v' hv'
     rw[hv',AV.BB _ _ hsr]
    ·cases hsr
   ids:=ids' _ rfl
   Aw:=fun y hy my=>⟨(idlt' _ rfl y hy my).1,Nat.lt_of_lt_of_le (idlt' _ rfl y hy my).2 hg.le.next⟩
   size:=by simpa using D.size }
theorem BQ.LS (D : BQ W0 C f ops G0 st0 w0 ts0 H lst rd fr G a w) (h : Region.ready .any ops lst = []) : ∀ x ∈ H, Li lst x.s.i := by
 have key:∀(n:Nat) (H1 H2:List eZ),H1.length=n→H=H1 ++ H2→ ∀ x ∈ H1,Li lst x.s.i:=by
  intro n
  induction n with
  | zero=>intro H1 H2 hl _ x hx; rw[List.length_eq_zero_iff.1 hl] at hx; cases hx
  | succ n ih =>
    intro H1 H2 hl e x hx
    rcases List.eq_nil_or_concat H1 with rfl | ⟨H3,z,rfl⟩
    ·cases hx
    ·rw[List.concat_eq_append] at hl e hx
     simp at hl
     have ih':=ih H3 (z :: H2) hl (by rw[e]; simp)
     simp only[List.mem_append,List.mem_singleton] at hx
     rcases hx with hx | rfl
     ·exact ih' x hx
     ·apply Classical.byContradiction
      intro hn
      have hx:=D.A9.op x (by rw[e]; simp)
      have hlt:x.s.i<lst.size:=by rw[D.size]; exact(Array.getElem?_eq_some_iff.1 hx).1
      have hw:rJ (Li lst) x.s.o:=(D.A9.ord H3 x H2 (by rw[e]; simp)).mono fun i ⟨y,hy,e⟩=>e ▸ ih' y hy
      have:x.s.i ∈ Region.ready .any ops lst:=mem_ready.2 ⟨by
       simp only[Li] at hn
       simp[hlt] at hn ⊢
       exact hn,x.s.o,hx,hw⟩
      rw[h] at this
      cases this
 exact fun x hx=>key H.length H [] rfl (by simp) x hx
theorem O8 (hC : Fv C.P W0 ck) (hY : xT C.P W0 ck) (hro : ro = none → rob = none) (hb : wR ops.toList befs) (ht : yB ops befs) {Q : Exit → Act → World → Prop} {ds0 : List oK}
 (hQ:∀ fr' G' a' w',k fr'=true→oJ W0 G0 st0 w0 G' fr'.st w'→B9 G' w' fr' a'→Q .normal a' w'):
 ∀ (fuel : Nat) (l : List rC) (H : List eZ) (lst : Array Bool) (rd : List Rd) (fr : Fr) (G : Gh) (a : Act) (w : World), lst.toList.count false ≤ fuel → BQ W0 C f ops G0 st0 w0 ts0 H lst rd fr G a w →
  Bp C.P ops befs (Is H) l→jK C ck f ro ops l rd fr k=true→wpAnyIn (FR rob) 0 C.P .any ops Q fuel lst a w:=by
 have IsP:∀(H:List eZ) (x:eZ) (s:rC),x.s=s→(fun j=>Is H j∨j=s.i)=Is (H ++ [x]):=fun H x s hx=>by
  funext j
  simp only[Is,eq_iff_iff,List.mem_append,List.mem_singleton]
  constructor
  ·rintro(⟨y,h1,h2⟩ | rfl)
   ·exact⟨y,.inl h1,h2⟩
   ·exact⟨x,.inr rfl,by rw[hx]⟩
  ·rintro⟨y,h1 | rfl,h2⟩
   ·exact .inl ⟨y,h1,h2⟩
   ·exact .inr (by rw[← h2,hx])
 have fin:∀(l:List rC) (H:List eZ) (lst:Array Bool) (rd:List Rd) (fr:Fr) (G:Gh) (a:Act) (w:World),BQ W0 C f ops G0 st0 w0 ts0 H lst rd fr G a w →
  Bp C.P ops befs (Is H) l→(∀ s l',l=s :: l'→s.cA=true)→jK C ck f ro ops l rd fr k=true→Region.ready .any ops lst=[]→Q .normal a w:=by
  intro l H lst rd fr G a w D hp hh h hr
  have hall:=D.LS hr
  cases hp with
  | nil _ =>
    simp only[jK] at h
    refine hQ fr G a w h D.wJ ⟨?_,D.ds⟩
    rw[D.ts,xG (q:=lq lst) fun x hx=>?_]
    ·exact D.rep
    ·exact(hall x hx).symm
  | @cons _ s l ho hn hw _ _ _ _ =>
    exfalso
    have hlt:s.i<lst.size:=by rw[D.size]; exact(Array.getElem?_eq_some_iff.1 ho).1
    have:s.i ∈ Region.ready .any ops lst:=mem_ready.2 ⟨by
     have hn':¬ Li lst s.i:=fun hl=>hn (D.A9.sub _ hl)
     simp only[Li] at hn'
     simp[hlt] at hn' ⊢
     exact hn',s.o,ho,(show rJ (Li lst) s.o from hw.mono fun i ⟨y,hy,e⟩=>e ▸ hall y hy)⟩
    rw[hr] at this
    cases this
 intro fuel
 induction fuel with
 | zero =>
   intro l
   induction l with
   | nil =>
     intro H lst rd fr G a w hc D hp h
     have hr:Region.ready .any ops lst=[]:=by
      refine List.eq_nil_iff_forall_not_mem.2 fun i hi=>?_
      obtain⟨h1,_⟩:=mem_ready.1 hi
      obtain⟨h2,_⟩:=Gj h1
      have:false ∈ lst.toList:=by
       rw[← h1]
       simp[h2]
      have:=List.count_pos_iff.2 this
      omega
     exact⟨hr,fin [] H lst rd fr G a w D hp (fun _ _ e=>by cases e) h hr⟩
   | cons s l ihl =>
     intro H lst rd fr G a w hc D hp h
     cases he:s.cA with
     | false =>
       cases hp with
       | cons ho hn hw hef hbf hone hp =>
         obtain⟨x,rd',fr1,hx,h1,D1⟩:=D.ID he hef ho hn hw h
         rw[IsP H x s hx] at hp
         exact ihl _ _ _ _ _ _ _ hc D1 hp h1
     | true =>
       have hr:Region.ready .any ops lst=[]:=by
        refine List.eq_nil_iff_forall_not_mem.2 fun i hi=>?_
        obtain⟨h1,_⟩:=mem_ready.1 hi
        obtain⟨h2,_⟩:=Gj h1
        have:false ∈ lst.toList:=by
            rw[← h1]
            simp[h2]
        have:=List.count_pos_iff.2 this
        omega
       exact⟨hr,fin _ H lst rd fr G a w D hp (fun _ _ e=>by injection e with e1 e2; subst e1; exact he) h hr⟩
 | succ fuel ih =>
   intro l
   induction l with
   | nil =>
     intro H lst rd fr G a w hc D hp h
     refine⟨fin [] H lst rd fr G a w D hp (fun _ _ e=>by cases e) h,fun i hi=>?_⟩
     obtain⟨h1,o,ho,hw⟩:=mem_ready.1 hi
     obtain⟨h2,h3⟩:=Gj h1
     have cnt:(lst.setIfInBounds i true).toList.count false≤fuel:=by
      have:lst.toList[i]? =some false:=by
       rw[← h1]
       simp[h2]
      have:=count_set _ _ this
      simp only[Array.toList_setIfInBounds]
      omega
     by_cases hH:Is H i
     ·obtain⟨x,hx,rfl⟩:=hH
      obtain⟨H1,H2,e⟩:=List.append_of_mem hx
      have:o=x.s.o:=by
       rw[D.A9.op x hx] at ho
       injection ho with ho
       exact ho.symm
      subst this
      exact D.late hb ht e h3 h2 hw fun G' a' w' D'=>ih _ _ _ _ _ _ _ _ cnt D' hp h
     ·cases hp with
      | nil hp=>exact absurd (rJ.mono (show rJ (Li lst) o from hw) fun i hi=>D.A9.sub i hi) (hp i o ho hH)
   | cons s l ihl =>
     intro H lst rd fr G a w hc D hp h
     cases he:s.cA with
     | false =>
       cases hp with
       | cons ho hn hw hef hbf hone hp =>
         obtain⟨x,rd',fr1,hx,h1,D1⟩:=D.ID he hef ho hn hw h
         rw[IsP H x s hx] at hp
         exact ihl _ _ _ _ _ _ _ hc D1 hp h1
     | true =>
       refine⟨fin _ H lst rd fr G a w D hp (fun _ _ e=>by injection e with e1 e2; subst e1; exact he) h,fun i hi=>?_⟩
       obtain⟨h1,o,ho,hw⟩:=mem_ready.1 hi
       obtain⟨h2,h3⟩:=Gj h1
       have cnt:(lst.setIfInBounds i true).toList.count false≤fuel:=by
        have:lst.toList[i]? =some false:=by
            rw[← h1]
            simp[h2]
        have:=count_set _ _ this
        simp only[Array.toList_setIfInBounds]
        omega
       by_cases hH:Is H i
       ·obtain⟨x,hx,rfl⟩:=hH
        obtain⟨H1,H2,e⟩:=List.append_of_mem hx
        have:o=x.s.o:=by
            rw[D.A9.op x hx] at ho
            injection ho with ho
            exact ho.symm
        subst this
        exact D.late hb ht e h3 h2 hw fun G' a' w' D'=>ih _ _ _ _ _ _ _ _ cnt D' hp h
       ·cases hp with
        | cons ho' hn hw' hef hbf hone hp =>
          have hi':i=s.i:=hone he i o ho hH (rJ.mono (show rJ (Li lst) o from hw) fun i hi=>D.A9.sub i hi)
          subst hi'
          have:o=s.o:=by
           rw[ho'] at ho
           injection ho with ho
           exact ho.symm
          subst this
          refine D.JO hC hY hro hb ht he hbf ho' hn h2 hw h fun x rd' fr1 G' a' w' hx h1 D1=>?_
          rw[IsP H x s hx] at hp
          exact ih _ _ _ _ _ _ _ _ cnt D1 hp h1
theorem Ik (hm:C.P.follows .mixedOrders=true)(hC:Fv C.P W0 ck)(hY:xT C.P W0 ck)(hro:ro=none→rob=none){id:Nat}{Q:Exit→Act→World→Prop}{l:List rC}(I:Inv W0 G fr.st w)(hf:B9 G w fr a)
 (hl:Lc C.P ops=some l) (h:jK C ck f ro ops l [] fr k=true) (hQ:∀ fr' G' a' w',k fr'=true→oJ W0 G fr.st w G' fr'.st w'→B9 G' w' fr' a'→Q .normal a' w'):(Code.region id ops true).wpIn (FR rob) 0 C.P Q a w:=by
 unfold Lc at hl
 simp only at hl
 obtain⟨ht,hl⟩:=b7 hl
 have hp:=La _ _ _ hl
 have hbef:wR ops.toList (DE ops.toList []):=by
  refine GF ops.toList [] [] rfl ?_
  intro i j hj
  simp at hj
 have hdr:oJ W0 G fr.st w G fr.st w.drew:=⟨Le.drew,sE.refl _ _,I.drew⟩
 refine wpIn_region_any hm (O8 (G0:=G) (st0:=fr.st) (w0:=w) (ts0:=fr.ts) hC hY hro hbef (N1 ht) (ds0:=[]) hQ ops.size l [] (Array.replicate ops.size false) [] fr G a w.drew ?_ ?_ ?_ h)
 ·simp
 ·have hno:∀ i,¬ Li (Array.replicate ops.size false) i:=fun i hi=>by
   simp only[Li,Array.getD_eq_getD_getElem?,Array.getElem?_replicate] at hi
   split at hi <;> simp at hi
  exact{
   A9:=⟨fun x hx=>(by cases hx),(by simp),fun i hi=>absurd hi (hno i),fun i o hi=>absurd hi (hno i),fun H1 x H2 e=>(by simp at e)⟩
   wJ:=hdr
   ts:=rfl
   rep:=aT.mono hdr.le _ _ hf.ts
   ds:=mI.mono hdr.le hf.ds
   Ig:=fun H1 x H2 e=>by simp at e
   ids:=fun x hx=>by cases hx
   Aw:=fun x hx=>by cases hx
   size:=by simp }
 ·have:Is []=fun j=>(0:Nat).testBit j=true:=by
   funext j
   simp[Is]
  rw[this]
  exact hp
end
end Go.Ev
end
section
set_option linter.all false
namespace Go.Ev
open Go.RowKit (Below)
section
variable {b:Frame}{a:Act}{k:List Item}{cs:List Frame}{w:World}{P:Program}{F:Fence}{n:Nat}{Q:Exit→Act→World→Prop}
theorem rA {c:Code}:step P (lone (b.atR a (.code (.scope c) :: k)) cs w)=.next (lone (b.atR a (.code c :: .inScope c :: k)) cs w):=
 step_lone_go (by simp[stepG,stepG.exec,Frame.atR])
theorem Fj {c:Code}:step P (lone (b.atR a (.inScope c :: k)) cs w)=.next (lone (b.atR a k) cs w):=
 step_lone_go (by simp[stepG,stepG.exec,Frame.atR])
theorem BO {c:Code}(h:c.wpIn F n P (Exit.noGoto Q) a w):(Code.scope c).wpIn F n P Q a w:=by
 intro b k cs hro hb hr
 have h0:(lone (b.atR a (.code (.scope c) :: k)) cs w).fenced P F:=fenced_calm hb hr rfl
 obtain⟨e,a₁,w₁,hq,harr⟩:=h b (.inScope c :: k) cs hro hb hr
 cases e with
 | normal=>exact⟨.normal,a₁,w₁,hq,.head h0 rA (StepsIn.trans harr (.one (fenced_calm hb hr rfl) Fj))⟩
 | exit id =>
   have hx:exitTo id (.inScope c :: k)=exitTo id k:=by simp[exitTo]
   exact⟨.exit id,a₁,w₁,hq,fun k' hk=>.head h0 rA (harr.1 k' (by rw[hx]; exact hk)),
    fun hr' hk=>let⟨k₁,h1,h2⟩:=harr.2 hr' (by rw[hx]; exact hk); ⟨k₁,h1,.head h0 rA h2⟩⟩
 | goto l=>exact hq.elim
 | ret=>exact⟨_,a₁,w₁,hq,.of_steps (.one h0 rA) harr⟩
 | panic ch=>exact⟨_,a₁,w₁,hq,.of_steps (.one h0 rA) harr⟩
 | outgrown=>exact⟨_,a₁,w₁,hq,.of_steps (.one h0 rA) harr⟩
end
section
variable {W0:World}{G:Gh}{st:St}{w:World}{P:Program}{C:AO}{ck:CK}{f:FuncId}
theorem IX.trans {G':Gh}{st':St}{w':World}{k:cE→Fr→Bool}{e:Exit}{a:Act}{w'':World}(h:oJ W0 G st w G' st' w')(hk:IX W0 G' st' w' k e a w''):IX W0 G st w k e a w'':=by
 obtain⟨x,fr,G'',k1,k2,k3,k4⟩:=hk
 exact⟨x,fr,G'',k1,k2,h.trans k3,k4⟩
def C9 (G:Gh)(ro rob:Option Nat):Prop:=(ro=none∧rob=none)∨ ∃ l b k n,ro=some l∧rob=some b∧G.β l=some (b,k,n)
theorem C9.mono {ro rob:Option Nat}{G':Gh}{st':St}{w':World}(L:Le G st w G' st' w')(h:C9 G ro rob):C9 G' ro rob:=by
 rcases h with h | ⟨l,b,k,n,h1,h2,h3⟩
 ·exact .inl h
 ·exact .inr ⟨l,b,k,n,h1,h2,L.β _ _ h3⟩
theorem C9.none {ro rob:Option Nat}(h:C9 G ro rob):ro=.none→rob=.none:=by
 rintro rfl
 rcases h with⟨_,h⟩ | ⟨l,b,k,n,h1,_⟩
 ·exact h
 ·cases h1
theorem BT {F:Fence}{c:Code}{Q Q':Exit→Act→World→Prop}(h:∀ e a w,Q e a w→Q' e a w):∀ n a w,Code.roundsIn F 0 P c Q n a w→Code.roundsIn F 0 P c Q' n a w
 | 0,_,_,k=>k
 | n + 1, a, w, k => by
   rw[roundsIn_succ] at k ⊢
   refine Go.wpIn_mono k fun e a w q=>?_
   cases e with
   | normal=>exact BT h n a w q
   | exit i=>exact h _ _ _ q
   | goto l=>exact h _ _ _ q
   | ret=>exact h _ _ _ q
   | panic c=>exact h _ _ _ q
   | outgrown=>exact h _ _ _ q
theorem Ef {ro rob:Option Nat}{F:Fence}{c:Code}{body:Fr→(cE→Fr→Bool)→Bool}
 (hb:∀{G:Gh} {w:World} {fr:Fr} {a:Act} {k:cE→Fr→Bool},C9 G ro rob→Inv W0 G fr.st w→B9 G w fr a→body fr k=true→c.wpIn F 0 P (IX W0 G fr.st w k) a w):
 ∀(n:Nat) {G:Gh} {w:World} {fr:Fr} {a:Act} {k:cE→Fr→Bool},C9 G ro rob→Inv W0 G fr.st w→B9 G w fr a→jA body n fr k=true→Code.roundsIn F 0 P c (IX W0 G fr.st w k) n a w
 | 0,G,w,fr,a,k,_,_,_,h=>by simp only[jA] at h; cases h
 | n + 1, G, w, fr, a, k, R, I, hf, h => by
   simp only[jA] at h
   rw[roundsIn_succ]
   refine Go.wpIn_mono (hb R I hf h) fun e a1 w1 hp=>?_
   obtain⟨x,fr1,G1,p1,pk,p2,p3⟩:=hp
   cases x with
   | normal =>
     simp only[cE.is] at p1
     subst p1
     exact BT (fun e a w=>IX.trans p2) n _ _ (Ef hb n (R.mono p2.le) p2.inv p3 pk)
   | exit i =>
     have p1':=p1
     simp only[cE.is] at p1
     subst p1
     exact⟨_,fr1,G1,p1',pk,p2,p3⟩
   | ret =>
     have p1':=p1
     simp only[cE.is] at p1
     subst p1
     exact⟨_,fr1,G1,p1',pk,p2,p3⟩
theorem HT (I : Inv W0 G st w) {fr : Fr} {a : Act} (e : fr.st = st) (hf : B9 G w fr a) {ro rob : Option Nat} (R : C9 G ro rob) {ps : Array Tmp} {asg body : Code} {l : Nat} {mark : List oK} {st1 : St}
 (h:J5 f ro ps asg body fr=some (l,mark,st1)) (fn:FuncId):
 ∃ b dm w1 G1,(Instr.enterLoop fn a.tmps ps asg body rob).run P w=.ok (b,dm) w1∧oJ W0 G st w G1 st1 w1∧mI G1 st1 w1 mark dm∧ ∃ k n,G1.β l=some (b,k,n):=by
 subst e
 unfold J5 at h
 rcases R with⟨rfl,rfl⟩ | ⟨l0,b0,k0,n0,rfl,rfl,hb0⟩
 ·simp only at h
  injection h with h; injection h with e1 e2; injection e2 with e2 e3; subst e1; subst e2; subst e3
  have hO1:oX G fr.st w .MA (.deferred (some [])):=rfl
  obtain⟨a1,a2,a3⟩:=xS I hO1
  have g1:oJ W0 G fr.st w _ (fr.st.push .MA) (w.alloc (.deferred (some []))):=⟨a1,a2,a3⟩
  have hd:(G.born fr.st.next (w.heap.size,0,0)).β fr.st.next=some (w.heap.size,0,0):=by simp[Gh.born]
  have hO2:oX (G.born fr.st.next (w.heap.size,0,0)) (fr.st.push .MA) (w.alloc (.deferred (some []))) (.loop ⟨.ready,none,f,fr.ts,ps,asg,body,fr.st.next⟩) (.loop ⟨.ready,none,fn,a.tmps,ps,asg,body,w.heap.size⟩):=
   ⟨a.tmps,w.heap.size,0,0,fn,rfl,aT.mono a1 _ _ hf.ts,hd⟩
  obtain⟨b1,b2,b3⟩:=xS a3 hO2
  have g2:oJ W0 _ _ _ _ ((fr.st.push .MA).push _) _:=⟨b1,b2,b3⟩
  have e1:(w.alloc (.deferred (some []))).heap.size=w.heap.size+1:=World.size_alloc ..
  refine⟨w.heap.size+1,_,_,_,run_enterLoop_outer fn a.tmps ps asg body,g1.trans g2,?_,0,0,?_⟩
  ·exact⟨_,[],rfl,⟨w.heap.size,0,0,b1.β _ _ hd,rfl⟩,rfl⟩
  ·simp[Gh.born,St.push,e1]
 ·simp only at h
  split at h
  ·rename_i r hr
   injection h with h; injection h with e1 e2; injection e2 with e2 e3; subst e1; subst e2; subst e3
   obtain⟨o,ho,hO⟩:=I.pL l0 b0 k0 n0 _ hb0 hr rfl
   obtain⟨tmps,d,k,n,g,rfl,_,hd⟩:=hO
   have hO2:oX G fr.st w (.loop ⟨.ready,none,f,fr.ts,ps,asg,body,r.defers⟩) (.loop ⟨.ready,none,fn,a.tmps,ps,asg,body,d⟩):=
    ⟨a.tmps,d,k,n,fn,rfl,hf.ts,hd⟩
   obtain⟨b1,b2,b3⟩:=xS I hO2
   refine⟨w.heap.size,[],_,_,?_,⟨b1,b2,b3⟩,rfl,0,0,?_⟩
   ·unfold Instr.enterLoop
    simp only[Sem.run_bind,run_newObj_alloc,Result.andThen,Sem.run_pure,run_getLoop ho]
   ·simp[Gh.born]
  ·cases h
theorem tK {g:FuncId}{vs:Array Value}(h:qM P g=true){u:Value}{w':World}(hr:(callFunc g vs).run P w=.ok (.value u) w'):False:=by
 unfold qM at h
 split at h
 ·rename_i fn hfn
  unfold callFunc at hr
  simp only[Sem.run_bind,run_program,Result.andThen_ok,hfn] at hr
  have hb:fn.body.isNone=false:=by
   cases hb:fn.body with
   | none=>rw[hb] at h; cases h
   | some _=>rfl
  simp only[hb] at hr
  split at hr
  ·simp at hr
  ·simp at hr
 ·cases h
theorem xY {st:St}{l:Nat}{r:MK}(h:D6 st l=some r):st.aS.get l=some (.loop r):=by
 unfold D6 at h
 split at h
 ·rename_i hr
  injection h with h
  subst h
  exact hr
 ·cases h
theorem C2 (hm : C.P.follows .mixedOrders = true) (hC : Fv C.P W0 ck) (hY : xT C.P W0 ck) {rounds : Nat} {ro rob : Option Nat} : ∀ (c : Code) {G : Gh} {w : World} {fr : Fr} {a : Act} {k : cE → Fr → Bool}, C9 G ro rob → Inv W0 G fr.st w → B9 G w fr a →
 cZ C ck f rounds ro c fr k=true→c.wpIn (FR rob) 0 C.P (IX W0 G fr.st w k) a w:=by
 intro c
 induction c with
 | skip =>
   intro G w fr a k R I hf h
   simp only[cZ] at h
   exact wpIn_skip ⟨.normal,fr,G,rfl,h,oJ.refl I,hf⟩
 | region id ops draw =>
   intro G w fr a k R I hf h
   simp only[cZ] at h
   cases draw with
   | false=>exact wpIn_region_list (DJ hC hY R.none _ I hf h fun fr' G' a' w' hk hg hf'=>⟨.normal,fr',G',rfl,hk,hg,hf'⟩)
   | true =>
     simp only at h
     split at h
     ·rename_i l hl
      exact Ik hm hC hY R.none I hf hl h fun fr' G' a' w' hk hg hf'=>⟨.normal,fr',G',rfl,hk,hg,hf'⟩
     ·cases h
 | seq p q ihp ihq =>
   intro G w fr a k R I hf h
   simp only[cZ] at h
   refine wpIn_seq (Go.wpIn_mono (ihp R I hf h) fun e a1 w1 hp=>?_)
   obtain⟨x,fr1,G1,p1,pk,p2,p3⟩:=hp
   cases x with
   | normal =>
     simp only[cE.is] at p1
     subst p1
     exact Go.wpIn_mono (ihq (R.mono p2.le) p2.inv p3 pk) fun e a w=>IX.trans p2
   | exit i =>
     have p1':=p1
     simp only[cE.is] at p1
     subst p1
     exact⟨_,fr1,G1,p1',pk,p2,p3⟩
   | ret =>
     have p1':=p1
     simp only[cE.is] at p1
     subst p1
     exact⟨_,fr1,G1,p1',pk,p2,p3⟩
 | cond o p q ihp ihq =>
   intro G w fr a k R I hf h
   simp only[cZ] at h
   split at h
   ·rename_i hv
    have hr:=aV.cH hf.ts hv
    simp only[aV] at hr
    exact wpIn_cond_true hr (ihp R I hf h)
   ·rename_i hv
    have hr:=aV.cH hf.ts hv
    simp only[aV] at hr
    exact wpIn_cond_false hr (ihq R I hf h)
   ·cases h
 | block id b ih =>
   intro G w fr a k R I hf h
   simp only[cZ] at h
   refine wpIn_block (Go.wpIn_mono (ih R I hf h) fun e a1 w1 hp=>?_)
   obtain⟨x,fr1,G1,p1,pk,p2,p3⟩:=hp
   cases x with
   | normal =>
     have p1':=p1
     simp only[cE.is] at p1
     subst p1
     exact⟨_,fr1,G1,p1',pk,p2,p3⟩
   | exit i =>
     simp only[cE.is] at p1
     subst p1
     simp only[iN] at pk
     simp only[Exit.inBlock]
     split at pk
     ·rw[if_pos (by assumption)]
      exact⟨.normal,fr1,G1,rfl,pk,p2,p3⟩
     ·rw[if_neg (by assumption)]
      exact⟨.exit i,fr1,G1,rfl,pk,p2,p3⟩
   | ret =>
     have p1':=p1
     simp only[cE.is] at p1
     subst p1
     exact⟨_,fr1,G1,p1',pk,p2,p3⟩
 | loop b ih =>
   intro G w fr a k R I hf h
   simp only[cZ] at h
   exact wpIn_loop_rounds rounds (Ef (fun R I hf h=>ih R I hf h) rounds R I hf h)
 | exit id =>
   intro G w fr a k R I hf h
   simp only[cZ] at h
   exact wpIn_exit ⟨.exit id,fr,G,rfl,h,oJ.refl I,hf⟩
 | label l =>
   intro G w fr a k R I hf h
   simp only[cZ] at h
   exact wpIn_label ⟨.normal,fr,G,rfl,h,oJ.refl I,hf⟩
 | ret =>
   intro G w fr a k R I hf h
   simp only[cZ] at h
   exact wpIn_ret ⟨.ret,fr,G,rfl,h,oJ.refl I,hf⟩
 | scope b ih =>
   intro G w fr a k R I hf h
   simp only[cZ] at h
   refine BO (Go.wpIn_mono (ih R I hf h) fun e a1 w1 hp=>?_)
   have hp':=hp
   obtain⟨x,fr1,G1,p1,_⟩:=hp
   cases x <;> simp only[cE.is] at p1 <;> subst p1 <;> exact hp'
 | goto l=>intro G w fr a k R I hf h; simp only[cZ] at h; cases h
 | rangeFunc g ps asg body _ _ =>
   intro G w fr a k R I hf h
   simp only[cZ] at h
   split at h
   rotate_left
   ·cases h
   rename_i g' first cap l mark st1 hg he
   obtain⟨hbody,h⟩:qM C.P g'=true∧_:=by
    cases hb:qM C.P g' with
    | false=>rw[hb] at h; cases h
    | true=>rw[hb] at h; exact⟨rfl,h⟩
   refine wpIn_rangeFunc fun fn _=>?_
   obtain⟨b,dm,w1,G1,e1,e2,e3,kb,nb,e4⟩:=HT (P:=C.P) I rfl hf R he fn
   have hfr:=aV.cH hf.ts hg
   simp only[aV] at hfr
   obtain⟨fs,cs,e,r1,r2⟩:=hfr
   have hargs:aT G1 st1 w1 (first ++ [.yield l] ++ cap) (fs ++ #[Value.func (.yield b) #[] #[]] ++ cs).toList:=by
    simp only[Array.toList_append]
    exact aT.append (aT.append (aT.mono e2.le _ _ r1) (aT.cons (by simp only[aV]; exact⟨b,kb,nb,e4,rfl⟩) aT.nil)) (aT.mono e2.le _ _ r2)
   have hres:(resolve a.eval (rangeCall g b) 0).run C.P w1=.ok { target:=.fn (.func g') cs,args:=fs ++ #[Value.func (.yield b) #[] #[]] } w1:=by
    have e0:(rangeCall g b).args.map a.eval= #[Value.func (.yield b) #[] #[]]:=by simp[rangeCall,Act.eval]
    show(Deferred.ofValue (a.eval g) ((rangeCall g b).args.map a.eval)).run C.P w1=_
    rw[e0,e]
    rfl
   rcases hC _ _ _ _ h G1 w1 _ e2.inv hargs with⟨u,w',v,st',G',c1,_⟩ | ⟨c1,c2,_⟩
   ·exact(tK hbody c1).elim
   refine⟨b,dm,w1,_,w1,g',_,w1,e1,hres,fun _ _=>trivial,by simpa[invoke] using c1,fun h=>(by cases h),?_⟩
   refine CallsIn.mono (F:=FR rob) (n:=0) c2 fun e w3 hp=>?_
   obtain⟨u,v,st2,G2,rfl,hk,q1,q2⟩:=hp
   simp only[Bool.or_self] at hk
   have hl2:=q1.le.β _ _ e4
   split at hk
   rotate_left
   ·cases hk
   rename_i x st3 hlv
   simp only[Lv,Option.bind_eq_some_iff] at hlv
   obtain⟨r,hr,hlv⟩:=hlv
   have hr:=xY hr
   obtain⟨o,ho,hO⟩:=q1.inv.pL l b kb nb _ hl2 hr rfl
   obtain⟨tmps,d,k0,n0,g0,rfl,o1,o2⟩:=hO
   split at hlv
   ·cases hlv
   ·rename_i x' hx hnb
    injection hlv with hlv; injection hlv with e5 e6; subst e5; subst e6
    have hO2:oX G2 st2 w3 (.loop { r with state:=.exhausted }) (.loop ⟨.exhausted,r.pending,g0,tmps,r.params,r.assign,r.body,d⟩):=⟨tmps,d,k0,n0,g0,rfl,o1,o2⟩
    obtain⟨z1,z2,z3⟩:=qI (o0:=.loop ⟨r.state,r.pending,g0,tmps,r.params,r.assign,r.body,d⟩) q1.inv hl2 hr rfl hO2
    have gz:oJ W0 G fr.st w G2 (st2.put l (.loop { r with state:=.exhausted })) _:=(e2.trans q1).trans ⟨z1,z2,z3⟩
    refine⟨r.pending,_,run_endLoop ho hnb,?_⟩
    have hfr':B9 G2 _ ⟨fr.ts,mark ++ fr.ds,st2.put l (.loop { r with state:=.exhausted })⟩ { a with defers:=dm ++ a.defers }:=
     ⟨aT.mono gz.le _ _ hf.ts,mI.append (mI.mono (q1.trans ⟨z1,z2,z3⟩).le e3) (mI.mono gz.le hf.ds)⟩
    unfold MJ at hx
    split at hx
    ·injection hx with hx
     subst hx
     rename_i hp
     rw[hp]
     rw[hp] at gz hfr' hk
     exact⟨.normal,_,G2,rfl,hk,gz,hfr'⟩
    ·injection hx with hx
     subst hx
     rename_i i hp
     rw[hp]
     rw[hp] at gz hfr' hk
     exact wpIn_exit ⟨.exit i,_,G2,rfl,hk,gz,hfr'⟩
    ·injection hx with hx
     subst hx
     rename_i hp
     rw[hp]
     rw[hp] at gz hfr' hk
     exact wpIn_ret ⟨.ret,_,G2,rfl,hk,gz,hfr'⟩
    ·cases hx
   ·cases hlv
 | refuse s=>intro G w fr a k R I hf h; simp only[cZ] at h; cases h
end
end Go.Ev
end
section
set_option linter.all false
namespace Go.Ev
open Go.RowKit (Below)
section
variable {W0:World}{G:Gh}{st:St}{w:World}{P:Program}{C:AO}{ck:CK}{f:FuncId}
def Iw (tmps:Array Value):ResultVar→Sem Value
 | .tmp t=>pure (tmps.getD t Go.undef)
 | .cell a t=>do loadVar t (← asAddr (tmps.getD a Go.undef))
theorem JI (fn:Func)(tmps:Array Value):results fn tmps=(do
 let vs ← fn.results.mapM (Iw tmps)
 pure (if h:vs.size=1 then vs[0] else .tuple vs)):=by
 unfold results
 congr 1
theorem EI (I : Inv W0 G st w) {ts : List AV} {tmps : Array Value} (hts : aT G st w ts tmps.toList) : ∀ {rs : List ResultVar} {vs : List AV}, pO P ts st rs = some vs →
 ∃ us,(rs.mapM (Iw tmps)).run P w=.ok us w∧aT G st w vs us
 | [], vs, h => by
   simp only[pO] at h
   injection h with h
   subst h
   exact⟨[],by simp,aT.nil⟩
 | r :: rs, vs, h => by
   simp only[pO,Option.bind_eq_some_iff] at h
   obtain⟨v,h1,vs',h2,h3⟩:=h
   injection h3 with h3
   subst h3
   obtain⟨us,u1,u2⟩:=EI I hts h2
   have key:∃ r',(Iw tmps r).run P w=.ok r' w∧aV G st w v r':=by
    cases r with
    | tmp t =>
      simp only[xE,Option.some.injEq] at h1
      subst h1
      exact⟨_,rfl,hts.tmp t⟩
    | cell t ty =>
      simp only[xE] at h1
      have hp:=hts.tmp t
      obtain⟨r,r1,r2⟩:=Bt (P:=P) I hp h1
      refine⟨r,?_,r2⟩
      simp only[loadAt,Option.bind_eq_some_iff] at h1
      obtain⟨_,_,n,_,l,hl,_⟩:=h1
      obtain⟨b,off,e,_⟩:=FA I hp hl
      show(do loadVar ty (← asAddr (tmps.getD t Go.undef)):Sem Value).run P w=_
      rw[e] at r1 ⊢
      simpa[Instr.loadAt,Instr.sureAddr,asAddr] using r1
   obtain⟨r',k1,k2⟩:=key
   exact⟨r' :: us,by simp only[List.mapM_cons,Sem.run_bind,k1,u1,Result.andThen_ok,Sem.run_pure],aT.cons k2 u2⟩
def one (us:List Value):Value:=if h:us.length=1 then us[0] else .tuple us.toArray
theorem FX {vs:List AV}{us:List Value}(h:aT G st w vs us):aV G st w (single vs) (one us):=by
 have many:∀{vs:List AV} {us:List Value},aT G st w vs us→vs.length≠1→aV G st w (.tuple vs) (one us):=by
  intro vs us h hne
  have hlen:=h.length
  unfold one
  rw[dif_neg (by omega)]
  simp only[aV]
  exact⟨_,rfl,by simpa using h⟩
 cases vs with
 | nil=>exact many h (by simp)
 | cons v t =>
   cases t with
   | nil =>
     obtain⟨u,l,rfl,hu,hl⟩:=h.cons_inv
     have:=hl.hT
     subst this
     simpa[single,one] using hu
   | cons _ _=>exact many h (by simp)
theorem DW (I:Inv W0 G st w){fn:Func}{ts:List AV}{tmps:Array Value}(hts:aT G st w ts tmps.toList){vs:List AV}(h:pO P ts st fn.results.toList=some vs):
 ∃ us,(results fn tmps).run P w=.ok (one us) w∧aT G st w vs us:=by
 obtain⟨us,u1,u2⟩:=EI I hts h
 refine⟨us,?_,u2⟩
 rw[JI]
 simp only[Sem.run_bind,Array.mapM_eq_mapM_toList,Sem.run_map,u1,Result.andThen_ok,Sem.run_pure]
 unfold one
 congr 1
theorem vD (hC:Fv P W0 ck){fn:Func}{ts:List AV}{tmps:Array Value}{R:Ending→World→Prop}{k:List AV→St→Bool}:∀{ads:List oK} {ds:List Deferred} {G:Gh} {st:St} {w:World},
 Inv W0 G st w→aT G st w ts tmps.toList→mI G st w ads ds→lL ck ads st (fun st'=>match pO P ts st' fn.results.toList with | some vs=>k vs st' | none=>false)=true →
 (∀ vs st' G' w' us,k vs st'=true→oJ W0 G st w G' st' w'→aT G' st' w' vs us→R (.returned (one us)) w')→LeavesInM Fence.wide 0 P fn tmps R ds .returning w
 | [], ds, G, st, w, I, hts, hd, h, hR => by
   simp only[lL] at h
   simp only[mI] at hd
   subst hd
   split at h
   ·rename_i vs hr
    obtain⟨us,u1,u2⟩:=DW I hts hr
    exact⟨_,u1,hR vs st G w us h (oJ.refl I) u2⟩
   ·cases h
 | .mark id :: ads, ds, G, st, w, I, hts, hd, h, hR => by
   obtain⟨d,ds',rfl,⟨b,k0,n0,hb,rfl⟩,hd⟩:=hd
   simp only[lL] at h
   split at h
   ·rename_i ho
    obtain⟨o,ho',hO⟩:=I.pL id b k0 n0 _ hb ho rfl
    simp only[oX] at hO
    subst hO
    have L:=Le.obj I hb .dead (.deferred none)
    have g:oJ W0 G st w G (st.put id .dead) (w.putObj b (.deferred none)):=⟨L,sE.put (by intro hu; rw[hu.1] at hb; cases hb),I.NN (.deferred none) hb ho rfl⟩
    refine⟨by simp,.inl ⟨b,_,rfl,run_takeDeferred ho',?_⟩⟩
    exact vD hC g.inv (aT.mono L _ _ hts) (mI.mono L hd) h fun vs st' G' w' us hk hg hu=>hR vs st' G' w' us hk (g.trans hg) hu
   ·cases h
 | .call f args :: ads, ds, G, st, w, I, hts, hd, h, hR => by
   obtain⟨d,ds',rfl,⟨cap,a_,rfl,hargs⟩,hd⟩:=hd
   simp only[lL] at h
   rcases hC _ _ _ _ h G w (a_ ++ cap) I hargs with⟨_,_,_,_,_,_,hp,_⟩ | ⟨c1,_,c3⟩
   ·cases hp
   ·refine⟨by simp,.inr ⟨fun h=>(by cases h),.func f,cap,f,a_ ++ cap,rfl,by simpa[invoke] using c1,fun _ _=>trivial,?_⟩⟩
    obtain⟨z1,z2⟩:=c3 (fun _ _=>rfl) .returning
    refine⟨z1,fun c cs hc hr=>?_⟩
    obtain⟨e,u',w',fr,⟨he1,he2⟩,hs,hk1,hk2,hk3⟩:=z2 c cs hc hr
    obtain⟨u,v,st',G',rfl,hk,hg,hrep⟩:=he2
    subst he1
    refine⟨.returned u,.returning,w',fr,?_,hs,hk1,hk2,hk3⟩
    simp only[settle]
    exact vD hC hg.inv (aT.mono hg.le _ _ hts) (mI.mono hg.le hd) hk fun vs st'' G'' w'' us hk' hg' hu=>hR vs st'' G'' w'' us hk' (hg.trans hg') hu
theorem vT {fn:Func}{tmps:Array Value}:∀(ds:List Deferred) (u:FrameMode) (w:World),LeavesInM Fence.wide 0 P fn tmps (fun _ _=>False) ds u w→False
 | [], u, w, h => by
   cases u with
   | run=>exact h
   | returning=>obtain⟨_,_,h⟩:=h; exact h
   | panicking c=>exact h
 | d :: ds, u, w, h => by
   obtain⟨_,⟨r,w',_,_,h⟩ | ⟨_,_,_,_,_,_,_,_,_,h⟩⟩:=h
   ·exact vT ds u w' h
   ·obtain⟨e,u',w',fr,h,_⟩:=h { (default:Frame) with mode:=u } [] rfl (room_wide _)
    cases e with
    | returned v=>exact vT ds _ _ h
    | panicked c=>exact vT ds _ _ h
    | outgrown=>exact h
theorem aT.pad {args:List AV}{vs:Array Value}{n:Nat}(h:aT G st w args vs.toList):aT G st w (IC n args) (vs ++ Array.replicate (n - vs.size) Go.undef).toList:=by
 have hl:=h.length
 simp only[Array.length_toList] at hl
 simp only[IC,Array.toList_append,Array.toList_replicate,hl]
 exact aT.append h (aT.replicate aV.undef _)
def oP (P:Program)(ext:Ext):Prop:=∀ f args v,ext f args=some v→ ∀ G st w (vs:Array Value),aT G st w args vs.toList →
 (∃ u,(callFunc f vs).run P w=.ok (.value u) w∧aV G st w v u) ∨
 ((callFunc f vs).run P w=.ok (.enter f vs) w∧Calls P f vs w fun e w'=>∃ u,e=.returned u∧aV G st w v u∧Below w.heap.size w w')
def xD (P:Program)(Bu:FuncId→List AV→St→Option (AV×St)):Prop:=∀ f args st v st',Bu f args st=some (v,st')→ ∀ W0 G w (vs:Array Value),Inv W0 G st w→aT G st w args vs.toList →
 (∃ u w' G',(callFunc f vs).run P w=.ok (.value u) w'∧oJ W0 G st w G' st' w'∧aV G' st' w' v u) ∨
 ((callFunc f vs).run P w=.ok (.enter f vs) w∧Calls P f vs w fun e w'=>∃ u G',e=.returned u∧oJ W0 G st w G' st' w'∧aV G' st' w' v u)
theorem FU {w':World}(I:Inv W0 G st w)(B:Below w.heap.size w w'):oJ W0 G st w G st w':=by
 have L:Le G st w G st w':=⟨fun _ _ h=>h,fun _ _ m _ h=>⟨m,Nat.le_refl _,h⟩,fun b id m n off h _=>B.cell (p:=⟨b,off,none⟩) (I.Ac b id m n h).2.1,fun _ h hh _=>⟨h,Nat.le_refl _,hh,fun _ _ _ _ k=>k⟩,Nat.le_refl _⟩
 refine⟨L,sE.refl _ _,?_⟩
 exact{
  below:=I.below.trans (B.mono I.below.size)
  blt:=fun id b k n h=>by obtain⟨h1,h2,h3⟩:=I.blt id b k n h; exact⟨h1,Nat.lt_of_lt_of_le h2 B.size,h3⟩
  AW:=I.AW
  vJ:=I.vJ
  Ac:=fun b id m n h=>by obtain⟨h1,h2,h3⟩:=I.Ac b id m n h; exact⟨h1,Nat.lt_of_lt_of_le h2 B.size,h3⟩
  qK:=fun b id m n i h hi=>by
   have hb:=(I.Ac b id m n h).2.1
   rw[B.cell (p:=⟨b,i,none⟩) hb,B.frozen (p:=⟨b,i,none⟩) hb]
   exact I.qK b id m n i h hi
  nI:=fun id b k n t u cs h1 h2=>by
   have hb:=(I.blt id b k n h1).2.1
   obtain⟨k1,k2,k3,k4,k5,k6⟩:=I.nI id b k n t u cs h1 h2
   refine⟨?_,k2,k3,fun hu=>⟨(k4 hu).1,by rw[B.frozen (p:=⟨b,n,none⟩) hb]; exact(k4 hu).2⟩,by rw[yC (B.block b hb)]; exact k5,fun i hi=>by rw[B.frozen (p:=⟨b,i,none⟩) hb]; exact k6 i hi⟩
   obtain⟨vs,j1,_,j3⟩:=k1.values
   exact dT.n6 (aT.mono L _ _ j1) fun j v hv=>by rw[B.cell (p:=⟨b,0+j,none⟩) hb]; exact j3 j v hv
  pL:=fun id b k n a h1 h2 h3=>by
   obtain⟨o,o1,o2⟩:=I.pL id b k n a h1 h2 h3
   exact⟨o,by rw[B.block b (I.blt id b k n h1).2.1]; exact o1,o2.mono L⟩
  fresh:=I.fresh
  old:=I.old }
theorem Ej:∀{ps:List Tmp} {a_ ts:List AV} {vs us:List Value},aT G st w a_ vs→aT G st w ts us →
 aT G st w (Aa ts ps a_) ((ps.zip vs).foldl (fun tmps (t,a)=>tmps.set t a) us)
 | [],a_,ts,vs,us,h,k=>by cases a_ <;> simpa[Aa] using k
 | p :: ps, [], ts, vs, us, h, k => by
   rw[h.hT]
   simpa[Aa] using k
 | p :: ps, a :: a_, ts, vs, us, h, k => by
   obtain⟨v,l,rfl,hv,h⟩:=h.cons_inv
   simp only[Aa,List.zip_cons_cons,List.foldl_cons]
   exact Ej h (k.set p hv)
theorem foldl_toList:∀(l:List (Tmp×Value)) (t:Array Value),(l.foldl (fun tmps (t,a)=>tmps.setIfInBounds t a) t).toList=l.foldl (fun tmps (t,a)=>tmps.set t a) t.toList
 | [],_=>rfl
 | (p, v) :: l, t => by
   simp only[List.foldl_cons]
   rw[foldl_toList l]
   simp
theorem II (hm:C.P.follows .mixedOrders=true)(hC:Fv C.P W0 ck)(hY:xT C.P W0 ck){rounds l:Nat}{args:List AV}{k:Bool→AV→St→Bool}(h:Iz C ck rounds l args st k=true)
 (I:Inv W0 G st w) {vs:Array Value} {b kk n:Nat} (hargs:aT G st w args vs.toList) (hb:G.β l=some (b,kk,n)):
 ∃ g tmps asg body,(Instr.yield b vs).run C.P w=.ok (.round b g tmps asg body) w∧RoundIn Fence.wide 0 C.P b g tmps asg body w (wS W0 G st w (k false)):=by
 unfold Iz at h
 split at h
 ·cases h
 rename_i r hr
 have hr:=xY hr
 obtain⟨o,ho,tmps,d,k0,n0,g,rfl,hts,hd⟩:=I.pL l b kk n _ hb hr rfl
 have hlen:args.length=r.params.size:=by
  cases hl:Nat.beq args.length r.params.size with
  | false=>rw[hl] at h; cases h
  | true=>exact Nat.eq_of_beq_eq_true hl
 rw[hlen,Nat.beq_refl] at h
 simp only[Bool.not_true,cond_false] at h
 have hsz:vs.size=r.params.size:=by
  have:=hargs.length
  simp only[Array.length_toList] at this
  omega
 refine⟨_,_,_,_,run_yield ho hsz,roundIn_of_wpIn trivial ?_⟩
 have htm:aT G st w (Aa r.tmps r.params.toList args) ((r.params.zip vs).foldl (fun tmps (t,a)=>tmps.setIfInBounds t a) tmps).toList:=by
  have e:(r.params.zip vs).foldl (fun tmps (t,a)=>tmps.setIfInBounds t a) tmps=((r.params.toList.zip vs.toList).foldl (fun tmps (t,a)=>tmps.setIfInBounds t a) tmps):=by
   rw[← Array.foldl_toList,Array.toList_zip]
  rw[e,foldl_toList]
  exact Ej hargs hts
 refine Go.wpIn_mono (C2 hm hC hY (ro:=some l) (rob:=some b) r.assign (fr:=⟨Aa r.tmps r.params.toList args,[],st⟩) (.inr ⟨l,b,kk,n,rfl,rfl,hb⟩) I ⟨htm,rfl⟩ h) fun e a1 w1 hp=>?_
 obtain⟨x,fr1,G1,p1,pk,p2,p3⟩:=hp
 cases x with
 | exit i=>cases pk
 | ret=>cases pk
 | normal=>
 simp only[cE.is] at p1
 subst p1
 simp only at pk
 split at pk
 ·cases pk
 rename_i r1 hr1
 have hr1:=xY hr1
 obtain⟨o1,ho1,tmps1,d1,k1,n1,g1,rfl,hts1,hd1⟩:=p2.inv.pL l b kk n _ (p2.le.β _ _ hb) hr1 rfl
 have hb1:=p2.le.β _ _ hb
 obtain⟨hst,pk⟩:(r1.state == .ready)=true∧_:=by
  cases hs:r1.state == .ready with
  | false=>rw[hs] at pk; cases pk
  | true=>rw[hs] at pk; exact⟨rfl,pk⟩
 have hst':r1.state=.ready:=by
  cases hs:r1.state <;> rw[hs] at hst <;> first | rfl | cases hst
 obtain⟨hde,pk⟩:fr1.ds.isEmpty=true∧_:=by
  cases hs:fr1.ds.isEmpty with
  | false=>rw[hs] at pk; cases pk
  | true=>rw[hs] at pk; exact⟨rfl,pk⟩
 have hde':fr1.ds=[]:=by simpa using hde
 simp only[Bool.not_true,Bool.or_self,cond_false] at pk
 have hO2:oX G1 fr1.st w1 (.loop { r1 with state:=.busy }) (.loop ⟨.busy,r1.pending,g1,tmps1,r1.params,r1.assign,r1.body,d1⟩):=⟨tmps1,d1,k1,n1,g1,rfl,hts1,hd1⟩
 obtain⟨z1,z2,z3⟩:=qI (o0:=.loop ⟨r1.state,r1.pending,g1,tmps1,r1.params,r1.assign,r1.body,d1⟩) p2.inv hb1 hr1 rfl hO2
 have gz:oJ W0 G st w G1 (fr1.st.put l (.loop { r1 with state:=.busy })) _:=p2.trans ⟨z1,z2,z3⟩
 refine⟨_,run_beginRound ho1 hst',?_⟩
 have hds1:a1.defers=[]:=by
  have:=p3.ds
  rw[hde'] at this
  exact this
 refine Go.wpIn_mono (C2 hm hC hY (ro:=some l) (rob:=some b) r.body (fr:=⟨fr1.ts,[],fr1.st.put l (.loop { r1 with state:=.busy })⟩) (.inr ⟨l,b,kk,n,rfl,rfl,hb1⟩) gz.inv ⟨aT.mono z1 _ _ p3.ts,by rw[hds1]; rfl⟩ pk) fun e a2 w2 hp=>?_
 obtain⟨x,fr2,G2,q1,qk,q2,q3⟩:=hp
 simp only at qk
 obtain⟨hde2,qk⟩:fr2.ds.isEmpty=true∧_:=by
  cases hs:fr2.ds.isEmpty with
  | false=>rw[hs] at qk; cases qk
  | true=>rw[hs] at qk; exact⟨rfl,qk⟩
 simp only[Bool.not_true,cond_false] at qk
 split at qk
 ·cases qk
 rename_i r2 hr2
 have hr2:=xY hr2
 have hb2:=q2.le.β _ _ hb1
 obtain⟨o2,ho2,tmps2,d2,k2,n2,g2,rfl,hts2,hd2⟩:=q2.inv.pL l b kk n _ hb2 hr2 rfl
 have fin:∀(s:LoopState) (jump:Option Code) (u:Bool),k false (.bool u) (fr2.st.put l (.loop { r2 with state:=s,pending:=jump }))=true →
  wS W0 G st w (k false) (.returned (.bool u)) (w2.putObj b (.loop ⟨s,jump,g2,tmps2,r2.params,r2.assign,r2.body,d2⟩)):=by
  intro s jump u hk
  have hO3:oX G2 fr2.st w2 (.loop { r2 with state:=s,pending:=jump }) (.loop ⟨s,jump,g2,tmps2,r2.params,r2.assign,r2.body,d2⟩):=⟨tmps2,d2,k2,n2,g2,rfl,hts2,hd2⟩
  obtain⟨y1,y2,y3⟩:=qI (o0:=.loop ⟨r2.state,r2.pending,g2,tmps2,r2.params,r2.assign,r2.body,d2⟩) q2.inv hb2 hr2 rfl hO3
  exact⟨.bool u,.bool u,_,G2,rfl,hk,(gz.trans q2).trans ⟨y1,y2,y3⟩,by simp only[aV]⟩
 cases x with
 | normal =>
   simp only[cE.is] at q1
   subst q1
   exact⟨_,_,run_endRound none ho2,fin _ _ _ qk⟩
 | exit i =>
   simp only[cE.is] at q1
   subst q1
   exact⟨_,_,run_endRound (some (.exit i)) ho2,fin _ _ _ qk⟩
 | ret =>
   simp only[cE.is] at q1
   subst q1
   exact⟨_,_,run_endRound (some .ret) ho2,fin _ _ _ qk⟩
theorem AI (hm : C.P.follows .mixedOrders = true) {ext : Ext} (hE : oP C.P ext) (hM : xD C.P C.Bu) (rounds : Nat) : ∀ n, Fv C.P W0 (aW C ext rounds n) ∧ xT C.P W0 (aW C ext rounds n)
 | 0=>⟨fun _ _ _ _ h=>(by simp only[aW] at h; cases h),fun _ _ _ _ h=>(by simp only[aW] at h; cases h)⟩
 | n + 1 => by
   obtain⟨ihC,ihY⟩:=AI hm hE hM rounds n
   refine⟨fun f args st k h G w vs I hargs=>?_,fun l args st k h G w vs b kk nn I hargs hb=>?_⟩
   ·simp only [aW] at h
    split at h
    ·rename_i v hv
     rcases hE f args v hv G st w vs hargs with⟨u,u1,u2⟩ | ⟨u1,u2⟩
     ·exact .inl ⟨u,w,v,st,G,u1,h,oJ.refl I,u2⟩
     ·refine .inr ⟨u1,callsIn_wide.2 (Calls.mono u2 fun e w' he=>?_),fun hk=>?_⟩
      ·obtain⟨u,rfl,hr,B⟩:=he
       have hg:=FU I B
       exact⟨u,v,st,G,rfl,by simp only[h,Bool.or_true],hg,aV.mono hg.le _ _ hr⟩
      ·rw[hk] at h; cases h
    ·split at h
     ·rename_i v st' hv
      rcases hM f args st v st' hv W0 G w vs I hargs with⟨u,w',G',u1,u2,u3⟩ | ⟨u1,u2⟩
      ·exact .inl ⟨u,w',v,st',G',u1,h,u2,u3⟩
      ·refine .inr ⟨u1,callsIn_wide.2 (Calls.mono u2 fun e w' he=>?_),fun hk=>?_⟩
       ·obtain⟨u,G',rfl,hg,hr⟩:=he
        exact⟨u,v,st',G',rfl,by simp only[h,Bool.or_true],hg,hr⟩
       ·rw[hk] at h; cases h
     ·split at h
      ·cases h
      rename_i fn hfn
      split at h
      ·cases h
      rename_i c hc
      have hname:¬ fn.name= "runtime.NumGoroutine" :=by
            intro e
            simp[e] at h
      have hname':(fn.name == "runtime.NumGoroutine")=false:=by simpa using hname
      rw[hname'] at h
      simp only[cond_false] at h
      have hbody:¬ fn.body=none:=by rw[hc]; simp
      have henter:(callFunc f vs).run C.P w=.ok (.enter f vs) w:=by
            simp[callFunc,hfn,hname,hbody]
      have hwp:=C2 (W0:=W0) hm ihC ihY (ro:=none) (rob:=none) c (G:=G) (w:=w) (fr:=⟨IC fn.ntmps args,[],st⟩) (a:={ tmps:=vs ++ Array.replicate (fn.ntmps - vs.size) Go.undef,defers:=[] }) (.inl ⟨rfl,rfl⟩) I ⟨aT.pad hargs,rfl⟩ h
      refine .inr ⟨henter,?_,fun hk u=>?_⟩
      ·refine callsIn_of_wp_marks hfn hc trivial (Go.wpIn_mono hwp fun e a1 w1 hp=>?_)
       obtain⟨x,fr,G1,p1,pk,p2,p3⟩:=hp
       have key:∀{x},(x=cE.normal∨x=cE.ret)→(match x with | cE.exit _=>false | _=>rS C.P (aW C ext rounds n) fn fr k)=true→LeavesInM Fence.wide 0 C.P fn a1.tmps (wS W0 G st w fun v st'=>k true v st' || k false v st') a1.defers .returning w1:=by
        intro x hx pk
        have pk':rS C.P (aW C ext rounds n) fn fr k=true:=by rcases hx with rfl | rfl <;> exact pk
        unfold rS at pk'
        refine vD (k:=fun vs st'=>k fr.ds.isEmpty (single vs) st') ihC p2.inv p3.ts p3.ds pk' fun vs st' G' w' us hk hg hu=>?_
        refine⟨_,single vs,st',G',rfl,?_,p2.trans hg,FX hu⟩
        cases hb:fr.ds.isEmpty with
        | true=>simp only[hb] at hk; simp only[hk,Bool.true_or]
        | false=>simp only[hb] at hk; simp only[hk,Bool.or_true]
       cases x with
       | exit i=>cases pk
       | normal=>simp only[cE.is] at p1; subst p1; exact key (.inl rfl) pk
       | ret=>simp only[cE.is] at p1; subst p1; exact key (.inr rfl) pk
      ·refine callsDIn_of_wp hfn hc trivial (Go.wpIn_mono hwp fun e a1 w1 hp=>?_)
       obtain⟨x,fr,G1,p1,pk,p2,p3⟩:=hp
       have key:∀{x},(x=cE.normal∨x=cE.ret)→(match x with | cE.exit _=>false | _=>rS C.P (aW C ext rounds n) fn fr k)=true→bodyPost C.P fn (wS W0 G st w (k true)) .ret a1 w1:=by
        intro x hx pk
        have pk':rS C.P (aW C ext rounds n) fn fr k=true:=by rcases hx with rfl | rfl <;> exact pk
        unfold rS at pk'
        have hds:fr.ds=[]:=by
         cases hd:fr.ds with
         | nil=>rfl
         | cons d ds =>
           refine(vT _ _ _ (vD (R:=fun _ _=>False) (k:=fun vs st'=>k fr.ds.isEmpty (single vs) st') ihC p2.inv p3.ts p3.ds pk' fun vs st' G' w' us hk' hg hu=>?_)).elim
           rw[hd] at hk'
           simp only[List.isEmpty_cons,hk] at hk'
           cases hk'
        rw[hds] at pk'
        simp only[lL] at pk'
        split at pk'
        ·rename_i vs hr
         obtain⟨us,u1,u2⟩:=DW p2.inv p3.ts hr
         have hd1:=p3.ds
         rw[hds] at hd1
         exact⟨hd1,_,u1,⟨_,single vs,fr.st,G1,rfl,pk',p2,FX u2⟩⟩
        ·cases pk'
       cases x with
       | exit i=>cases pk
       | normal=>simp only[cE.is] at p1; subst p1; exact key (.inl rfl) pk
       | ret=>simp only[cE.is] at p1; subst p1; exact key (.inr rfl) pk
   ·simp only[aW] at h
    exact II hm ihC ihY h I hargs hb
end
end Go.Ev
end
section
set_option linter.all false
namespace Go.Ev
open Go.RowKit (Below)
def wM:List UInt8→Nat→Nat→Int
 | [],_,_=>-1
 | a :: l,c,i=>cond (Nat.beq a.toNat c) i (wM l c (i+1))
def Dz (g:FuncId):Ext:=fun f args=>cond (Nat.beq f g) (match args with
 | [.str s,.int .u8 c]=>some (.int .i64 (wM s (c.toNat % 256) 0))
 | _=>none) none
theorem DV {c:Nat}:∀{l:List UInt8} {i:Nat},(∀ j (h:j<l.length),(l[j]).toNat≠c)→wM l c i= -1
 | [],_,_=>rfl
 | a :: l, i, h => by
   have h0:=h 0 (by simp)
   simp only[List.getElem_cons_zero] at h0
   simp only[wM,iN,if_neg h0]
   exact DV fun j hj=>by
    have:=h (j+1) (by simpa using hj)
    simpa using this
theorem Di {c:Nat}:∀{l:List UInt8} {i k:Nat} (hk:k<l.length),(l[k]).toNat=c→(∀ j (h:j<k),(l[j]'(by omega)).toNat≠c)→wM l c i=((i+k:Nat):Int)
 | a :: l, i, 0, _, h, _ => by
   simp only[List.getElem_cons_zero] at h
   simp only[wM,iN,if_pos h]
   simp
 | a :: l, i, k + 1, hk, h, hn => by
   have h0:=hn 0 (by omega)
   simp only[List.getElem_cons_zero] at h0
   simp only[wM,iN,if_neg h0]
   rw[Di (l:=l) (i:=i+1) (k:=k) (by simpa using hk) (by simpa using h) fun j hj=>by
    have:=hn (j+1) (by omega)
    simpa using this]
   congr 1
   omega
theorem Ii {P : Program} {g : FuncId} {fn : Func} (hf : P.funcs[g]? = some fn) (h0 : (fn.name == "runtime.NumGoroutine") = false) (h1 : fn.body = none) (h2 : (Extern.findNext fn).isSome = false)
 (h3:Extern.find fn=some Extern.BytealgIndexByte.indexByte):oP P (Dz g):=by
 intro f args v h G st w vs hr
 unfold Dz at h
 obtain⟨hfg,h'⟩:=b7 h
 clear h
 have hfg':=Nat.eq_of_beq_eq_true hfg
 clear hfg
 subst hfg'
 have h:=h'
 clear h'
 split at h
 ·rename_i s c
  injection h with h
  subst h
  obtain⟨v1,l1,e1,r1,hr⟩:=hr.cons_inv
  obtain⟨v2,l2,e2,r2,hr⟩:=hr.cons_inv
  have e3:=hr.hT
  subst e2 e3
  simp only[aV] at r1 r2
  subst r1 r2
  have:vs= #[.string ⟨s.toArray⟩,.int .u8 c]:=by cases vs; simp at e1; simp[e1]
  subst this
  have h0':¬ fn.name= "runtime.NumGoroutine" :=by simpa using h0
  have h2':Extern.findNext fn=none:=by simpa using h2
  refine .inl ⟨.int .i64 (wM s (c.toNat % 256) 0),?_,by simp only[aV]⟩
  have key:(Extern.BytealgIndexByte.indexByte #[.string ⟨s.toArray⟩,.int .u8 c]).run P w=.ok (.int .i64 (wM s (c.toNat % 256) 0)) w:=by
   have hs:(⟨s.toArray⟩:ByteArray).size=s.length:=by simp[ByteArray.size]
   have hg:∀ i (h:i<s.length),(⟨s.toArray⟩:ByteArray)[i]! =s[i]:=fun i h=>by
    rw[getElem!_pos _ _ (by rw[hs]; exact h)]
    rfl
   have hp:∀ i (h:i<s.length),((⟨s.toArray⟩:ByteArray)[i]! == c.toNat.toUInt8)=decide ((s[i]).toNat=c.toNat % 256):=fun i h=>by
    rw[hg i h,Bool.eq_iff_iff,decide_eq_true_eq,beq_iff_eq,← UInt8.toNat_inj]
    simp
   change Sem.run P (do
    let b ← Extern.Bytes.bytesOf (.string ⟨s.toArray⟩)
    let c ← Extern.Bytes.asByte (.int .u8 c)
    match(List.range b.size).find? (fun i=>b[i]! == c) with
    | some i=>pure (goInt i)
    | none=>pure (goInt (-1))) w=_
   simp only[Extern.Bytes.bytesOf,Extern.Bytes.asByte,Sem.run_bind,Sem.run_pure,Result.andThen_ok,hs]
   cases hfd:(List.range s.length).find? fun i=>(⟨s.toArray⟩:ByteArray)[i]! == c.toNat.toUInt8 with
   | none =>
     rw[List.find?_range_eq_none] at hfd
     rw[DV fun j hj=>?_]
     ·rfl
     ·have:=hfd j hj
      rw[hp j hj] at this
      simpa using this
   | some k =>
     rw[List.find?_range_eq_some] at hfd
     obtain⟨k1,k2,k3⟩:=hfd
     have hk:k<s.length:=by simpa using k2
     rw[Di (k:=k) hk (by rw[hp k hk] at k1; simpa using k1) fun j hj=>?_]
     ·simp[goInt]
     ·have:=k3 j hj
      rw[hp j (by omega)] at this
      simpa using this
  simp[callFunc,hf,h0',h1,h2',h3,key]
 ·cases h
def Ea (g:FuncId)(b:Bool)(old:Ext):Ext:=fun f args=>cond (Nat.beq f g) (match args with
 | []=>some (.bool b)
 | _=>none) (old f args)
theorem HZ {P:Program}{g:FuncId}{b:Bool}{fn:Func}{old:Ext}(ho:oP P old)(hf:P.funcs[g]? =some fn)(h0:(fn.name == "runtime.NumGoroutine")=false)(h1:fn.body.isSome=true)
 (h:∀ w,Calls P g #[] w fun e w'=>e=.returned (.bool b)∧Below w.heap.size w w'):oP P (Ea g b old):=by
 intro f args v hx G st w vs hr
 unfold Ea at hx
 cases hfg:Nat.beq f g with
 | false =>
   rw[hfg] at hx
   exact ho f args v hx G st w vs hr
 | true =>
   rw[hfg] at hx
   have:=Nat.eq_of_beq_eq_true hfg
   subst this
   cases args with
   | cons a a_=>cases hx
   | nil =>
     injection hx with hx
     subst hx
     have e:=hr.hT
     have:vs= #[]:=by cases vs; simp at e; simp[e]
     subst this
     have h0':¬ fn.name= "runtime.NumGoroutine" :=by simpa using h0
     have h1':¬ fn.body=none:=by intro h; rw[h] at h1; cases h1
     refine .inr ⟨by simp[callFunc,hf,h0',h1'],Calls.mono (h w) fun e w' ⟨he,hB⟩=>⟨_,he,by simp only[aV],hB⟩⟩
section
variable {C:AO}{ext:Ext}{rounds:Nat}
def Fb (v:AV):Bool:=match v with | .bool b=>b | _=>false
theorem PO {v:AV}(h:Fb v=true):v=.bool true:=by
 cases v <;> simp_all[Fb]
theorem Lf {W0:World}(hm:C.P.follows .mixedOrders=true)(hE:oP C.P ext)(hM:xD C.P C.Bu){n:Nat}{f:FuncId}{args:List AV}{vs:Array Value}{k:AV→Bool}(hb:Below W0.heap.size W0 W0)
 (ha:∀ G st w,aT G st w args vs.toList) (h:aW C ext rounds (n+1) false f args St.empty (fun _ v _=>k v)=true) (hx:qM C.P f=true):
 Calls C.P f vs W0 fun e w'=>Below W0.heap.size W0 w'∧ ∃ u v G st,e=.returned u∧k v=true∧aV G st w' v u:=by
 have I:Inv W0 ⟨fun _=>none,fun _=>none⟩ St.empty W0:={
  below:=hb
  blt:=fun _ _ _ _ h=>by cases h
  AW:=fun _ _ _ _ _ _ _ h=>by cases h
  vJ:=fun _ _ _ _ h=>by cases h
  Ac:=fun _ _ _ _ h=>by cases h
  qK:=fun _ _ _ _ _ h=>by cases h
  nI:=fun _ _ _ _ _ _ _ h=>by cases h
  pL:=fun _ _ _ _ _ h=>by cases h
  fresh:=fun id _=>by simp[St.empty,Tr.get]
  old:=fun _ _ _ h=>by cases h }
 rcases(AI (W0:=W0) hm hE hM rounds (n+1)).1 f args St.empty _ h _ W0 vs I (ha _ _ _) with⟨u,w',v,st',G',c1,_⟩ | ⟨_,c2,_⟩
 ·exact(tK hx c1).elim
 ·refine Calls.mono (callsIn_wide.1 c2) fun e w' he=>?_
  obtain⟨u,v,st',G',rfl,hk,hg,hr⟩:=he
  simp only[Bool.or_self] at hk
  exact⟨hg.inv.below,u,v,G',st',rfl,hk,hr⟩
theorem Iy {W0:World}(hm:C.P.follows .mixedOrders=true)(hE:oP C.P ext)(hM:xD C.P C.Bu){n:Nat}{f:FuncId}{args:List AV}{vs:Array Value}(hb:Below W0.heap.size W0 W0)
 (ha:∀ G st w,aT G st w args vs.toList) (h:aW C ext rounds (n+1) false f args St.empty (fun _ v _=>Fb v)=true) (hx:qM C.P f=true):
 Calls C.P f vs W0 fun e w'=>e=.returned (.bool true)∧Below W0.heap.size W0 w':=by
 refine Calls.mono (Lf hm hE hM hb ha h hx) fun e w' ⟨hB,u,v,G,st,he,hk,hr⟩=>?_
 obtain rfl:=PO hk
 simp only[aV] at hr
 subst hr
 exact⟨he,hB⟩
end
end Go.Ev
end
section
set_option linter.all false
namespace Go.Ev
open Go.RowKit (Below)
def N9:FuncId→List AV→St→Option (AV×St):=fun _ _ _=>none
theorem L9 {P:Program}:xD P N9:=fun _ _ _ _ _ h=>by cases h
end Go.Ev
end
section
set_option linter.all false
namespace Go.Ev
open Go.RowKit (Below)
mutual
def AV.closed:AV→Bool
 | .int _ _=>true
 | .bool _=>true
 | .str _=>true
 | .zE=>true
 | .CV _ _=>true
 | .aF=>true
 | .B1=>true
 | .Dr=>true
 | .B7=>true
 | .L6 ..=>true
 | .iface _ v=>AV.closed v
 | .agg cs=>AV.vO cs
 | .tuple cs=>AV.vO cs
 | .func _ a b=>AV.vO a && AV.vO b
 | _=>false
def AV.vO:List AV→Bool
 | []=>true
 | a :: a_=>AV.closed a && AV.vO a_
end
section
variable {G G':Gh}{st st':St}{w w':World}
mutual
theorem aV.closed:∀{a:AV} {v:Value},a.closed=true→aV G st w a v→aV G' st' w' a v
 | .int _ _,_,_,h=>by simpa only[aV] using h
 | .bool _,_,_,h=>by simpa only[aV] using h
 | .str _,_,_,h=>by simpa only[aV] using h
 | .zE,_,_,h=>by simpa only[aV] using h
 | .CV _ _,_,_,h=>by simpa only[aV] using h
 | .aF,_,_,h=>by simpa only[aV] using h
 | .B1,_,_,h=>by simpa only[aV] using h
 | .Dr,_,_,h=>by simpa only[aV] using h
 | .B7,_,_,h=>by simpa only[aV] using h
 | .L6 ..,_,_,h=>by simpa only[aV] using h
 | .iface _ a, _, hc, h => by
   simp only[AV.closed] at hc
   simp only[aV] at h ⊢
   obtain⟨u,h1,h2⟩:=h
   exact⟨u,h1,aV.closed hc h2⟩
 | .agg cs, _, hc, h => by
   simp only[AV.closed] at hc
   simp only[aV] at h ⊢
   obtain⟨u,h1,h2⟩:=h
   exact⟨u,h1,aT.closed hc h2⟩
 | .tuple cs, _, hc, h => by
   simp only[AV.closed] at hc
   simp only[aV] at h ⊢
   obtain⟨u,h1,h2⟩:=h
   exact⟨u,h1,aT.closed hc h2⟩
 | .func _ a b, _, hc, h => by
   simp only[AV.closed,Bool.and_eq_true] at hc
   simp only[aV] at h ⊢
   obtain⟨f,c,h1,h2,h3⟩:=h
   exact⟨f,c,h1,aT.closed hc.1 h2,aT.closed hc.2 h3⟩
 | .ref _ _,_,hc,_=>by simp[AV.closed] at hc
 | .pM _,_,hc,_=>by simp[AV.closed] at hc
 | .sl ..,_,hc,_=>by simp[AV.closed] at hc
 | .j9 ..,_,hc,_=>by simp[AV.closed] at hc
 | .sT,_,hc,_=>by simp[AV.closed] at hc
 | .map _,_,hc,_=>by simp[AV.closed] at hc
 | .yield _,_,hc,_=>by simp[AV.closed] at hc
 | .wF ..,_,hc,_=>by simp[AV.closed] at hc
 | .El ..,_,hc,_=>by simp[AV.closed] at hc
 | .any,_,hc,_=>by simp[AV.closed] at hc
theorem aT.closed:∀{a_:List AV} {vs:List Value},AV.vO a_=true→aT G st w a_ vs→aT G' st' w' a_ vs
 | [],_,_,h=>by rw[h.hT]; exact aT.nil
 | a :: a_, _, hc, h => by
   simp only[AV.vO,Bool.and_eq_true] at hc
   obtain⟨v,l,rfl,hv,h⟩:=h.cons_inv
   exact aT.cons (aV.closed hc.1 hv) (aT.closed hc.2 h)
end
end
end Go.Ev
end
section
set_option linter.all false
namespace Go.Ev
open Go.RowKit (Below)
end Go.Ev
end
section
set_option linter.all false
namespace Go.Ev
def vZ (i:Nat):Operand→Operand
 | .tmp _=>.tmp i
 | x=>x
def zT:Nat→List Operand→List Operand
 | _,[]=>[]
 | i,x :: xs=>vZ i x :: zT (i+1) xs
def J8:Nat→List (Nat×Operand)→List (Nat×Operand)
 | _,[]=>[]
 | i,(j,x) :: ps=>(j,vZ i x) :: J8 (i+1) ps
def P9 (i:Nat):Option Operand→Option Operand
 | none=>none
 | some x=>some (vZ i x)
def nO:Option Operand→Nat
 | none=>0
 | some _=>1
def kY:Op→Op
 | .move x=>.move (vZ 0 x)
 | .assign x=>.assign (vZ 0 x)
 | .pick c a b=>.pick (vZ 0 c) (vZ 1 a) (vZ 2 b)
 | .box t v=>.box t (vZ 0 v)
 | .build t ps=>.build t ⟨J8 0 ps.toList⟩
 | .buildSlice t n ps=>.buildSlice t n ⟨J8 0 ps.toList⟩
 | .insert t m k v=>.insert t (vZ 0 m) (vZ 1 k) (vZ 2 v)
 | .load t a=>.load t (vZ 0 a)
 | .store t a v=>.store t (vZ 0 a) (vZ 1 v)
 | .nilCheck x=>.nilCheck (vZ 0 x)
 | .binOp op t x y u=>.binOp op t (vZ 0 x) (vZ 1 y) u
 | .unOp op t x=>.unOp op t (vZ 0 x)
 | .convert s d x=>.convert s d (vZ 0 x)
 | .makeInterface t x=>.makeInterface t (vZ 0 x)
 | .makeFunc fn a b=>.makeFunc fn ⟨zT 0 a.toList⟩ ⟨zT a.toList.length b.toList⟩
 | .makeSlice t l c=>.makeSlice t (vZ 0 l) (vZ 1 c)
 | .slice t x l h m=>.slice t (vZ 0 x) (P9 1 l) (P9 (1+nO l) h) (P9 (1+nO l+nO h) m)
 | .fieldAddr t x i=>.fieldAddr t (vZ 0 x) i
 | .field t x i=>.field t (vZ 0 x) i
 | .indexAddr t x i=>.indexAddr t (vZ 0 x) (vZ 1 i)
 | .index t x i=>.index t (vZ 0 x) (vZ 1 i)
 | .lookup t x i ok=>.lookup t (vZ 0 x) (vZ 1 i) ok
 | .mapUpdate t m k v=>.mapUpdate t (vZ 0 m) (vZ 1 k) (vZ 2 v)
 | .range t x=>.range t (vZ 0 x)
 | .entry x=>.entry (vZ 0 x)
 | .typeAssert x s t ok=>.typeAssert (vZ 0 x) s t ok
 | .extract x i=>.extract (vZ 0 x) i
 | .call ⟨.builtin b,args,ts⟩=>.call ⟨.builtin b,⟨zT 0 args.toList⟩,ts⟩
 | op=>op
def FI:Op→Bool
 | .move _ | .assign _ | .pick .. | .box .. | .build .. | .buildSlice .. | .insert .. | .load .. | .store .. | .nilCheck _ | .binOp .. | .unOp .. | .convert .. | .makeInterface ..
 | .makeSlice .. | .slice .. | .fieldAddr .. | .field .. | .indexAddr .. | .index .. | .lookup .. | .mapUpdate .. | .range .. | .entry _ | .typeAssert .. | .extract .. | .alloc _=>true
 | .makeFunc ..=>true
 | .makeMap _ none=>true
 | .call ⟨.builtin _,_,_⟩=>true
 | _=>false
section
variable {ts pre post vs:List AV}{a b c v:AV}
theorem zR {x:Operand}(h:cH ts x=some v)(pre post:List AV):cH (pre ++ v :: post) (vZ pre.length x)=some v:=by
 cases x with
 | tmp t=>simp[vZ,cH,List.getD]
 | const c=>exact h
 | global g=>exact h
 | func f=>exact h
theorem fZ {x:Operand}(h:cH ts x=some a)(post:List AV):cH (a :: post) (vZ 0 x)=some a:=zR h [] post
theorem tT {x:Operand}(h:cH ts x=some b)(a:AV)(post:List AV):cH (a :: b :: post) (vZ 1 x)=some b:=zR h [a] post
theorem FE {x:Operand}(h:cH ts x=some c)(a b:AV)(post:List AV):cH (a :: b :: c :: post) (vZ 2 x)=some c:=zR h [a,b] post
theorem mS {x:Operand}{xs:List Operand}(h:cU ts (x :: xs)=some vs):∃ v vs',vs=v :: vs'∧cH ts x=some v∧cU ts xs=some vs':=by
 simp only[cU,Option.bind_eq_some_iff,Option.some.injEq] at h
 obtain⟨v,h1,vs',h2,rfl⟩:=h
 exact⟨v,vs',rfl,h1,h2⟩
theorem vW (h:cU ts []=some vs):vs=[]:=by
 simp only[cU,Option.some.injEq] at h; exact h.symm
theorem Ab:∀{xs:List Operand} {vs:List AV} (pre:List AV),cU ts xs=some vs→cU (pre ++ vs) (zT pre.length xs)=some vs
 | [],_,pre,h=>by rw[vW h]; rfl
 | x :: xs, _, pre, h => by
   obtain⟨v,vs',rfl,h1,h2⟩:=mS h
   have h3:=Ab (pre ++ [v]) h2
   simp only[List.append_assoc,List.singleton_append,List.length_append,List.length_cons,List.length_nil,Nat.zero_add] at h3
   simp only[zT,cU,zR h1 pre vs',h3,Option.bind_some]
theorem Et:∀{ps:List (Nat×Operand)} {vs:List AV} (pre:List AV),cU ts (ps.map (·.2))=some vs→qN (pre ++ vs) (J8 pre.length ps)=qN ts ps
 | [],_,pre,h=>rfl
 | (i, x) :: ps, _, pre, h => by
   obtain⟨v,vs',rfl,h1,h2⟩:=mS h
   have h3:=Et (pre ++ [v]) h2
   simp only[List.append_assoc,List.singleton_append,List.length_append,List.length_cons,List.length_nil,Nat.zero_add] at h3
   simp only[J8,qN,zR h1 pre vs',h1,h3,Option.bind_some]
theorem HO {x:Option Operand}(pre:List AV)(h:cU ts x.toList=some vs)(post:List AV):Dn (pre ++ vs ++ post) (P9 pre.length x)=Dn ts x:=by
 cases x with
 | none=>rfl
 | some x =>
   obtain⟨v,vs',rfl,h1,h2⟩:=mS h
   obtain rfl:=vW h2
   have:=zR h1 pre post
   simp only[List.append_assoc,List.cons_append,List.nil_append,P9,Dn,this,h1]
theorem rQ:∀{xs ys:List Operand} {vs:List AV},cU ts (xs ++ ys)=some vs→ ∃ a_ bs,vs=a_ ++ bs∧cU ts xs=some a_∧cU ts ys=some bs
 | [],ys,vs,h=>⟨[],vs,rfl,rfl,h⟩
 | x :: xs, ys, vs, h => by
   obtain⟨v,vs',rfl,h1,h2⟩:=mS h
   obtain⟨a_,bs,rfl,h3,h4⟩:=rQ h2
   exact⟨v :: a_,bs,rfl,by simp only[cU,h1,h3,Option.bind_some],h4⟩
theorem BN:∀{xs:List Operand} {vs:List AV},cU ts xs=some vs→vs.length=xs.length
 | [],_,h=>by rw[vW h]; rfl
 | x :: xs, _, h => by
   obtain⟨v,vs',rfl,h1,h2⟩:=mS h
   simp[BN h2]
end
end Go.Ev
end
section
set_option linter.all false
namespace Go.Ev
section
variable {ts vs:List AV}{P:Program}
theorem Mz (d:TypeDesc)(i j:Nat)(x y:Operand)(a b:AV):Dh d (vZ i x) (vZ j y) a b=Dh d x y a b:=by
 cases x <;> cases y <;> rfl
theorem MZ (P:Program)(op:BinOp)(t:TypeId)(x y:Operand)(a b:AV):AB P op t (vZ 0 x) (vZ 1 y) a b=AB P op t x y a b:=by
 unfold AB
 split <;> first | rfl | (simp only[Mz])
theorem mY {x:Operand}(h:cU ts [x]=some vs):∃ a,vs=[a]∧cH ts x=some a:=by
 obtain⟨a,vs',rfl,h1,h2⟩:=mS h
 obtain rfl:=vW h2
 exact⟨a,rfl,h1⟩
theorem BG {x y:Operand}(h:cU ts [x,y]=some vs):∃ a b,vs=[a,b]∧cH ts x=some a∧cH ts y=some b:=by
 obtain⟨a,vs',rfl,h1,h2⟩:=mS h
 obtain⟨b,rfl,h3⟩:=mY h2
 exact⟨a,b,rfl,h1,h3⟩
theorem DB {x y z:Operand}(h:cU ts [x,y,z]=some vs):∃ a b c,vs=[a,b,c]∧cH ts x=some a∧cH ts y=some b∧cH ts z=some c:=by
 obtain⟨a,vs',rfl,h1,h2⟩:=mS h
 obtain⟨b,c,rfl,h3,h4⟩:=BG h2
 exact⟨a,b,c,rfl,h1,h3,h4⟩
theorem Ko:∀{xs:List Operand} {vs:List AV} (post:List AV) (h:cU ts xs=some vs),cU (vs ++ post) (zT 0 xs)=some vs:=by
 have key:∀{xs:List Operand} {vs:List AV} (pre post:List AV),cU ts xs=some vs→cU (pre ++ vs ++ post) (zT pre.length xs)=some vs:=by
  intro xs
  induction xs with
  | nil=>intro vs pre post h; rw[vW h]; rfl
  | cons x xs ih =>
    intro vs pre post h
    obtain⟨v,vs',rfl,h1,h2⟩:=mS h
    have h3:=ih (pre ++ [v]) post h2
    have h4:=zR h1 pre (vs' ++ post)
    simp only[List.append_assoc,List.cons_append,List.nil_append,List.length_append,List.length_cons,List.length_nil,Nat.zero_add] at h3 h4 ⊢
    simp only[zT,cU,h4,h3,Option.bind_some]
 intro xs vs post h
 exact key [] post h
theorem FG:∀(ps:List (Nat×Operand)) (i:Nat),(J8 i ps).map (·.2)=zT i (ps.map (·.2))
 | [],_=>rfl
 | (j,x) :: ps,i=>by simp[J8,zT,FG ps (i+1)]
theorem Ay:∀(xs ys:List Operand) (i:Nat),zT i (xs ++ ys)=zT i xs ++ zT (i+xs.length) ys
 | [],_,_=>by simp[zT]
 | x :: xs,ys,i=>by simp[zT,Ay xs ys (i+1),Nat.add_assoc,Nat.add_comm 1]
theorem I8 (x:Option Operand)(i:Nat):(P9 i x).toArray.toList=zT i x.toArray.toList:=by cases x <;> rfl
theorem Oq (x:Option Operand):nO x=x.toArray.toList.length:=by cases x <;> rfl
theorem Fp {op:Op}(hk:FI op=true):(kY op).operands.toList=zT 0 op.operands.toList:=by
 cases op with
 | call c =>
   obtain⟨callee,args,tys⟩:=c
   cases callee with
   | builtin b=>simp[kY,Op.operands,Call.operands]
   | _=>cases hk
 | build t ps=>simp[kY,Op.operands,FG]
 | buildSlice t n ps=>simp[kY,Op.operands,FG]
 | slice t x l h m =>
   simp only[kY,Op.operands,Array.toList_append,I8,Ay,List.length_append,Oq]
   simp[zT,Nat.add_assoc]
 | makeFunc fn a b=>simp[kY,Op.operands,Ay]
 | makeMap t r =>
   cases r with
   | none=>rfl
   | some x=>cases hk
 | _=>first | rfl | cases hk
theorem Da {op:Op}(hk:FI op=true)(h:cU ts op.operands.toList=some vs):cU vs (kY op).operands.toList=some vs:=by
 rw[Fp hk]
 exact Ab [] h
theorem zC {op:Op}(hk:FI op=true):lZ P (kY op)=lZ P op:=by
 cases op with
 | call c =>
   obtain⟨callee,args,tys⟩:=c
   cases callee with
   | builtin b=>cases b <;> rfl
   | _=>cases hk
 | _=>first | rfl | cases hk
theorem LN {op:Op}(hk:FI op=true)(h:cU ts op.operands.toList=some vs):gC P vs (kY op)=gC P ts op:=by
 cases op with
 | move x =>
   obtain⟨a,rfl,h1⟩:=mY h
   simp only[kY,gC,fZ h1,h1]
 | assign x =>
   obtain⟨a,rfl,h1⟩:=mY h
   simp only[kY,gC,fZ h1,h1]
 | pick c x y =>
   obtain⟨a,b,c,rfl,h1,h2,h3⟩:=DB h
   simp only[kY,gC,fZ h1,tT h2,FE h3,h1,h2,h3]
 | build t ps =>
   have:=Et (ps:=ps.toList) [] (by simpa[Op.operands] using h)
   simp only[List.nil_append,List.length_nil] at this
   simp only[kY,gC,this]
 | nilCheck x =>
   obtain⟨a,rfl,h1⟩:=mY h
   simp only[kY,gC,fZ h1,h1]
 | binOp op t x y u =>
   obtain⟨a,b,rfl,h1,h2⟩:=BG h
   simp only[kY,gC,fZ h1,tT h2,h1,h2,Option.bind_some]
   exact MZ P op t x y a b
 | unOp op t x =>
   obtain⟨a,rfl,h1⟩:=mY h
   simp only[kY,gC,fZ h1,h1]
 | convert s d x =>
   obtain⟨a,rfl,h1⟩:=mY h
   simp only[kY,gC,fZ h1,h1]
 | makeInterface t x =>
   obtain⟨a,rfl,h1⟩:=mY h
   simp only[kY,gC,fZ h1,h1]
 | makeFunc fn a b =>
   simp only[Op.operands,Array.toList_append] at h
   obtain⟨a_,bs,rfl,h1,h2⟩:=rQ h
   have k1:=Ko bs h1
   have k2:=Ab a_ h2
   rw[BN h1] at k2
   simp only[kY,gC,h1,h2,k1,k2]
 | slice t x l hi m =>
   simp only[Op.operands,Array.toList_append,List.append_assoc] at h
   obtain⟨a_,r,rfl,h1,h2⟩:=rQ h
   obtain⟨bs,r,rfl,h3,h4⟩:=rQ h2
   obtain⟨cs,ds,rfl,h5,h6⟩:=rQ h4
   obtain⟨a,rfl,h7⟩:=mY h1
   have e1:(Option.toArray l).toList=l.toList:=by cases l <;> rfl
   have e2:(Option.toArray hi).toList=hi.toList:=by cases hi <;> rfl
   have e3:(Option.toArray m).toList=m.toList:=by cases m <;> rfl
   rw[e1] at h3
   rw[e2] at h5
   rw[e3] at h6
   have k1:=HO [a] h3 (cs ++ ds)
   have k2:=HO ([a] ++ bs) h5 ds
   have k3:=HO ([a] ++ bs ++ cs) h6 []
   have l1:bs.length=nO l:=by rw[BN h3]; cases l <;> rfl
   have l2:cs.length=nO hi:=by rw[BN h5]; cases hi <;> rfl
   simp only[List.length_append,List.length_cons,List.length_nil,Nat.zero_add,l1,l2,List.append_assoc,List.append_nil] at k1 k2 k3
   rw[← Nat.add_assoc] at k3
   simp only[kY,gC,List.append_assoc,k1,k2,k3]
   have:=fZ h7 (bs ++ (cs ++ ds))
   simp only[List.singleton_append,this,h7]
 | fieldAddr t x i =>
   obtain⟨a,rfl,h1⟩:=mY h
   simp only[kY,gC,fZ h1,h1]
 | field t x i =>
   obtain⟨a,rfl,h1⟩:=mY h
   simp only[kY,gC,fZ h1,h1]
 | indexAddr t x i =>
   obtain⟨a,b,rfl,h1,h2⟩:=BG h
   simp only[kY,gC,fZ h1,tT h2,h1,h2]
 | index t x i =>
   obtain⟨a,b,rfl,h1,h2⟩:=BG h
   simp only[kY,gC,fZ h1,tT h2,h1,h2]
 | extract x i =>
   obtain⟨a,rfl,h1⟩:=mY h
   simp only[kY,gC,fZ h1,h1]
 | typeAssert x s t ok =>
   obtain⟨a,rfl,h1⟩:=mY h
   simp only[kY,gC,fZ h1,h1]
 | call c =>
   obtain⟨callee,args,tys⟩:=c
   cases callee with
   | builtin b =>
     have h0:cU ts args.toList=some vs:=by simpa[Op.operands,Call.operands] using h
     have h1:=Ab [] h0
     simp only[List.nil_append,List.length_nil] at h1
     cases b <;> simp only[kY,gC,h1,h0]
   | _=>cases hk
 | _=>first | rfl | cases hk
theorem O7 {op:Op}{b:Bool}(hk:FI op=true)(h:cU ts op.operands.toList=some vs):Bl P b vs (kY op)=Bl P b ts op:=by
 cases op with
 | box t x =>
   obtain⟨a,rfl,h1⟩:=mY h
   simp only[kY,Bl,fZ h1,h1]
 | buildSlice t n ps =>
   have:=Et (ps:=ps.toList) [] (by simpa[Op.operands] using h)
   simp only[List.nil_append,List.length_nil] at this
   simp only[kY,Bl,this]
 | makeSlice t l c =>
   obtain⟨a,b,rfl,h1,h2⟩:=BG h
   simp only[kY,Bl,fZ h1,tT h2,h1,h2]
 | convert s d x =>
   obtain⟨a,rfl,h1⟩:=mY h
   simp only[kY,Bl,fZ h1,h1]
 | makeMap t r =>
   cases r with
   | none=>rfl
   | some x=>cases hk
 | call c =>
   obtain⟨callee,args,tys⟩:=c
   cases callee with
   | builtin b=>rfl
   | _=>cases hk
 | _=>first | rfl | cases hk
theorem N7 (i:Nat)(x:Option Operand)(l:List AV):DS (P9 i x) l=DS x l:=by cases x <;> cases l <;> rfl
theorem ND {op:Op}{st:St}(hk:FI op=true):vA P st (kY op) vs=vA P st op vs:=by
 cases op with
 | slice t x l h m =>
   cases vs with
   | nil=>rfl
   | cons v vs=>simp only[kY,vA,N7]
 | call c =>
   obtain⟨callee,args,tys⟩:=c
   cases callee with
   | builtin b=>cases b <;> first | rfl | (rcases vs with _ | ⟨a,_ | ⟨b,vs⟩⟩ <;> rfl)
   | _=>cases hk
 | _=>first | (cases hk; done) | (rcases vs with _ | ⟨a,_ | ⟨b,_ | ⟨c,vs⟩⟩⟩ <;> rfl)
theorem Mf {op:Op}{b:Bool}{st:St}(hk:FI op=true)(h:cU ts op.operands.toList=some vs):u9 P b vs st (kY op)=u9 P b ts st op:=by
 cases op with
 | store t x y =>
   obtain⟨a,b,rfl,h1,h2⟩:=BG h
   simp only[kY,u9,fZ h1,tT h2,h1,h2]
 | mapUpdate t x y z =>
   obtain⟨a,b,c,rfl,h1,h2,h3⟩:=DB h
   simp only[kY,u9,fZ h1,tT h2,FE h3,h1,h2,h3]
 | insert t x y z =>
   obtain⟨a,b,c,rfl,h1,h2,h3⟩:=DB h
   simp only[kY,u9,fZ h1,tT h2,FE h3,h1,h2,h3]
 | range t x =>
   obtain⟨a,rfl,h1⟩:=mY h
   simp only[kY,u9,fZ h1,h1]
 | entry x =>
   obtain⟨a,rfl,h1⟩:=mY h
   simp only[kY,u9,fZ h1,h1]
 | call c =>
   obtain⟨callee,args,tys⟩:=c
   cases callee with
   | builtin b =>
     have h0:cU ts args.toList=some vs:=by simpa[Op.operands,Call.operands] using h
     have h1:=Ab [] h0
     simp only[List.nil_append,List.length_nil] at h1
     cases b <;> simp only[kY,u9,h1,h0]
   | _=>cases hk
 | makeMap t r =>
   cases r with
   | none=>rfl
   | some x=>cases hk
 | _=>first | rfl | cases hk
theorem PW {C:AO}{f:FuncId}{st:St}{o:Oper}(hk:FI o.op=true)(h:cU ts o.op.operands.toList=some vs):
 E7 C f vs st { o with op:=kY o.op }=E7 C f ts st o:=by
 unfold E7
 simp only[zC hk]
 cases lZ C.P o.op with
 | pure=>simp only[LN hk h]
 | load=>simp only[Da hk h,h,Option.bind_some,ND hk]
 | mk=>simp only[O7 hk h]
 | cA=>simp only[Mf hk h]
end
end Go.Ev
end
section
set_option linter.all false
namespace Go.Ev
def Has (N:Nat)(l:List (Nat×AV))(ts:List AV):Prop:=ts.length=N∧ ∀ p ∈ l,ts.getD p.1 AV.undef=p.2
def p9 (N:Nat)(ov:Tr AV)(ts:List AV):Prop:=ts.length=N∧ ∀ t v,ov.get t=some v→ts.getD t AV.undef=v
def EN (ck:CK)(g:Nat)(a_:List AV)(st:St)(v:AV)(st':St):Prop:=∀ k,ck false g a_ st k=k true v st'
def aR (ck:CK)(y:Bool)(g:Nat)(a_:List AV)(st:St)(v:AV)(st':St):Prop:=∃ p,∀ k,ck y g a_ st k=k p v st'
def jL (N:Nat)(run:Fr→(cE→Fr→Bool)→Bool)(mods:List Nat)(ins:List (Nat×AV))(st:St)(e:cE)(outs:List (Nat×AV))(st':St):Prop:=
 ∀ ts ds,Has N ins ts→ ∃ ts',Has N outs ts'∧(∀ t,Gg mods t=false→ts'.getD t AV.undef=ts.getD t AV.undef)∧ ∀ k,run ⟨ts,ds,st⟩ k=k e ⟨ts',ds,st'⟩
inductive Hint where
 | run (n:Nat)
 | dec (d:Bool)
 | val (v:AV)
 | cA (v:AV) (st:St)
 | call (v:AV) (st:St)
 | Lx (css:List (List AV))
 | abs (ins:List Nat) (e:cE) (outs:List (Nat×AV)) (st:St)
 | fT (ins:List Nat) (e:cE) (outs:List (Nat×AV)) (st:St)
 | Ag (ins:List Nat) (e:cE) (outs:List (Nat×AV)) (st:St)
 | nW (ins:List Nat) (e:cE) (outs:List (Nat×AV)) (st:St)
 | aM
inductive mD:List Prop→Prop where
 | nil:mD []
 | cons {p:Prop} {l:List Prop} (h:p) (t:mD l):mD (p :: l)
theorem mD.head {p:Prop}{l:List Prop}(h:mD (p :: l)):p:=by cases h; assumption
theorem mD.tail {p:Prop}{l:List Prop}(h:mD (p :: l)):mD l:=by cases h; assumption
structure OS where
 ov:Tr AV
 st:St
 hs:List Hint
 cs:List Prop
 ds:List oK:=[]
def HP (ov:Tr AV):Operand→Option AV
 | .tmp t=>ov.get t
 | x=>cH [] x
def Bd (ov:Tr AV):List Operand→Option (List AV)
 | []=>some []
 | x :: xs=>(HP ov x).bind fun a=>(Bd ov xs).bind fun a_=>some (a :: a_)
def Hp (N:Nat)(ov:Tr AV)(dst:Option Tmp)(v:AV):Option (Tr AV):=match dst with
 | none=>some ov
 | some d=>cond (Nat.blt d N) (some (ov.set v d)) none
def EC (ops : Array Oper) (ov : Tr AV) (o : Oper) : Option Bool :=
 match o.guard with
 | none=>some true
 | some (j, b) => match (ops[j]?).bind (·.dst) with
   | none=>none
   | some d => match ov.get d with
     | some (.bool c)=>some (c == b)
     | some (.tuple _)=>some false
     | _=>none
def EM (place : Nat → Option (Nat × Nat)) (cells : List AV) : List (Nat × List AV) → Option (List AV)
 | []=>some cells
 | (i, v) :: rest => (place i).bind fun (off, sz) =>
   cond (Nat.beq v.length sz && Nat.ble (off+sz) cells.length) (EM place (dJ cells off v) rest) none
def J9:List (Nat×Operand)→List (List AV)→List (Nat×List AV)
 | (i,_) :: ps,c :: cs=>(i,c) :: J9 ps cs
 | _,_=>[]
def JV (P:Program)(t:TypeId)(ps:List (Nat×List AV)):Option AV:=
 (v7 P t).bind fun z=>(P.underlying t).bind fun d=>match d with
 | .struct fs=>(fs.toList.mapM (fun f=>(P.info? f.type).map fun i=>(f.offset,i.size))).bind fun places=>(EM (fun i=>places[i]?) z.cells ps).bind fun cs=>some (.agg cs)
 | .array _ elem=>(size? P elem).bind fun sz=>(EM (fun i=>some (i * sz,sz)) z.cells ps).bind fun cs=>some (.agg cs)
 | _=>none
def NP (n:Nat)(hs:List Hint):List Hint:=match n with
 | 0=>hs
 | n=>.run n :: hs
def DF (C : AO) (f : FuncId) (o : Oper) (s : OS) : Option (AV × OS) :=
 cond (!FI o.op) none<|(Bd s.ov o.op.operands.toList).bind fun vs=>match s.hs with
  | .run (n+1) :: hs=>(E7 C f vs s.st { o with op:=kY o.op }).bind fun r=>some (r.1,{ s with st:=r.2,hs:=NP n hs })
  | .dec d :: hs => (E7 C f vs s.st { o with op := kY o.op }).bind fun r => match r.1 with
    | .bool b=>some (.bool d,{ s with st:=r.2,hs:=hs,cs:=(b=d) :: s.cs })
    | _=>none
  | .val v :: hs => match lZ C.P o.op with
    | .pure=>some (v,{ s with hs:=hs,cs:=(gC C.P vs (kY o.op)=some v) :: s.cs })
    | .load=>some (v,{ s with hs:=hs,cs:=(vA C.P s.st (kY o.op) vs=some v) :: s.cs })
    | _=>none
  | .Lx css :: hs => match o.op with
    | .build t ps=>(JV C.P t (J9 ps.toList css)).bind fun v=>some (v,{ s with hs:=hs,cs:=(vs.map AV.cells=css) :: s.cs })
    | _=>none
  | .cA v st' :: hs => match lZ C.P o.op with
    | .cA=>some (v,{ s with st:=st',hs:=hs,cs:=(u9 C.P (C.cQ f) vs s.st (kY o.op)=some (v,st')) :: s.cs })
    | .mk=>some (v,{ s with st:=st',hs:=hs,cs:=((Bl C.P (C.cQ f) vs (kY o.op)).bind (fun x=>some (x.1 s.st.next,s.st.push x.2))=some (v,st')) :: s.cs })
    | _=>none
  | _=>none
def QI (C : AO) (ck : CK) (f : FuncId) (ro : Option Nat) (o : Oper) (s : OS) : Option (AV × OS) :=
 match o.op with
 | .call { callee := .value x, args, .. } => match s.hs with
   | .call v st' :: hs => (HP s.ov x).bind fun fv => (Bd s.ov args.toList).bind fun a_ => match fv with
     | .func (.func g) first cap=>some (v,{ s with st:=st',hs:=hs,cs:=aR ck false g (first ++ a_ ++ cap) s.st v st' :: s.cs })
     | .yield l=>some (v,{ s with st:=st',hs:=hs,cs:=aR ck true l a_ s.st v st' :: s.cs })
     | _=>none
   | _=>none
 | .call { callee := .invoke x name, args, .. } => match s.hs with
   | .call v st' :: hs => (HP s.ov x).bind fun fv => (Bd s.ov args.toList).bind fun a_ => match fv with
     | .iface t u=>(methodOf C.P s.st t u name).bind fun(g,r)=>some (v,{ s with st:=st',hs:=hs,cs:=aR ck false g (r :: a_) s.st v st' :: s.cs })
     | _=>none
   | _=>none
 | .defer { callee := .value x, args, .. } => cond ro.isSome none <| (HP s.ov x).bind fun fv => (Bd s.ov args.toList).bind fun a_ => match fv with
   | .func (.func g) first cap=>some (AV.undef,{ s with ds:=.call g (first ++ a_ ++ cap) :: s.ds })
   | _=>none
 | .defer _=>none
 | .next _ _=>none
 | _=>DF C f o s
def M6 (C : AO) (ck : CK) (f : FuncId) (ro : Option Nat) (N : Nat) (ops : Array Oper) (o : Oper) (s : OS) : Option OS :=
 (EC ops s.ov o).bind fun w=>match w with
  | true=>(QI C ck f ro o s).bind fun r=>(Hp N r.2.ov o.dst r.1).bind fun ov=>some { r.2 with ov:=ov }
  | false=>(Hp N s.ov o.dst AV.undef).bind fun ov=>some { s with ov:=ov }
def Mx (C:AO)(ck:CK)(f:FuncId)(ro:Option Nat)(N:Nat)(ops:Array Oper):List Oper→OS→Option OS
 | [],s=>some s
 | o :: os,s=>(M6 C ck f ro N ops o s).bind fun s'=>Mx C ck f ro N ops os s'
def Iu (P:Program)(st:St)(rd:List Rd)(cs:List Prop):List Prop:=
 match rd with
 | []=>cs
 | r :: rd=>(vA P st r.op r.vs=some r.v∧AV.beq r.v r.v=true) :: Iu P st rd cs
def Qg (P : Program) (ov : Tr AV) (i : Nat) (o : Oper) (v : AV) : List Rd :=
 match lZ P o.op with
 | .load => match Bd ov o.op.operands.toList with
   | some vs=>[⟨i,o.op,vs,v⟩]
   | none=>[]
 | _=>[]
def Ey (C : AO) (ck : CK) (f : FuncId) (ro : Option Nat) (N : Nat) (ops : Array Oper) : List rC → List Rd → OS → Option OS
 | [],_,s=>some s
 | p :: l, rd, s => (EC ops s.ov p.o).bind fun w => match w with
   | false=>(Hp N s.ov p.o.dst AV.undef).bind fun ov=>Ey C ck f ro N ops l rd { s with ov:=ov }
   | true => match p.cA with
     | false=>(DF C f p.o s).bind fun r=>(Hp N r.2.ov p.o.dst r.1).bind fun ov=>Ey C ck f ro N ops l (Qg C.P s.ov p.i p.o r.1 ++ rd) { r.2 with ov:=ov }
     | true => (QI C ck f ro p.o s).bind fun r => (Hp N r.2.ov p.o.dst r.1).bind fun ov =>
       Ey C ck f ro N ops l (rd.filter fun r=>!p.Jm.testBit r.i) { r.2 with ov:=ov,cs:=Iu C.P r.2.st (rd.filter fun r=>!p.Jm.testBit r.i) r.2.cs }
def zV : List Oper → List Nat
 | []=>[]
 | o :: os => match o.dst with
   | some d=>d :: zV os
   | none=>zV os
def dI:Code→List Nat
 | .region _ ops _=>zV ops.toList
 | .seq a b=>dI a ++ dI b
 | .cond _ a b=>dI a ++ dI b
 | .block _ b=>dI b
 | .loop b=>dI b
 | .scope b=>dI b
 | _=>[]
def GQ (ov:Tr AV):List Nat→Option (List (Nat×AV))
 | []=>some []
 | t :: ts=>(ov.get t).bind fun v=>(GQ ov ts).bind fun l=>some ((t,v) :: l)
def Kx:Tr AV→Nat→Tr AV
 | .leaf,_=>.leaf
 | .node l v r,n=>cond (Nat.beq n 0) (.node l none r) (cond (Nat.beq (n % 2) 1) (.node (Kx l (n / 2)) v r) (.node l v (Kx r (n / 2 - 1))))
def IJ (ov:Tr AV):List Nat→Tr AV
 | []=>ov
 | t :: ts=>IJ (Kx ov t) ts
def BX (N:Nat)(ov:Tr AV):List (Nat×AV)→Option (Tr AV)
 | []=>some ov
 | (t,v) :: l=>cond (Nat.blt t N) (BX N (ov.set v t) l) none
def LY (N:Nat)(run:Fr→(cE→Fr→Bool)→Bool)(mods:List Nat)(ins:List Nat)(e:cE)(outs:List (Nat×AV))(st':St)(hs:List Hint)(s:OS):Option (cE×OS):=
 (GQ s.ov ins).bind fun l=>(BX N (IJ s.ov mods) outs).bind fun ov=>some (e,⟨ov,st',hs,jL N run mods l s.st e outs st' :: s.cs,s.ds⟩)
def Ng (C:AO)(ck:CK)(f:FuncId)(ro:Option Nat)(N:Nat)(ops:Array Oper)(draw:Bool)(s:OS):Option (cE×OS):=match draw with
 | false=>(Mx C ck f ro N ops ops.toList s).bind fun s'=>some (.normal,s')
 | true=>(Lc C.P ops).bind fun l=>(Ey C ck f ro N ops l [] s).bind fun s'=>some (.normal,s')
def n4 (C : AO) (ck : CK) (f : FuncId) (rounds : Nat) (ro : Option Nat) (N : Nat) : Code → OS → Option (cE × OS)
 | .skip,s=>some (.normal,s)
 | .region id ops draw, s => match s.hs with
   | .Ag ins e outs st' :: hs=>LY N (cZ C ck f rounds ro (.region id ops draw)) (dI (.region id ops draw)) ins e outs st' hs s
   | _=>Ng C ck f ro N ops draw s
 | .seq a b, s => (n4 C ck f rounds ro N a s).bind fun r => match r.1 with
   | .normal=>n4 C ck f rounds ro N b r.2
   | e=>some (e,r.2)
 | .cond c a b, s => match s.hs with
   | .fT ins e outs st' :: hs=>LY N (cZ C ck f rounds ro (.cond c a b)) (dI (.cond c a b)) ins e outs st' hs s
   | .aM :: hs => match HP s.ov c with
     | some (.bool true)=>n4 C ck f rounds ro N a { s with hs:=hs }
     | some (.bool false)=>n4 C ck f rounds ro N b { s with hs:=hs }
     | _=>none
   | _ => match HP s.ov c with
     | some (.bool true)=>n4 C ck f rounds ro N a s
     | some (.bool false)=>n4 C ck f rounds ro N b s
     | _=>none
 | .block id b, s => match s.hs with
   | .nW ins e outs st' :: hs=>LY N (cZ C ck f rounds ro (.block id b)) (dI (.block id b)) ins e outs st' hs s
   | .aM :: hs => (n4 C ck f rounds ro N b { s with hs := hs }).bind fun r => match r.1 with
     | .exit i=>some (cond (Nat.beq i id) .normal (.exit i),r.2)
     | e=>some (e,r.2)
   | _ => (n4 C ck f rounds ro N b s).bind fun r => match r.1 with
     | .exit i=>some (cond (Nat.beq i id) .normal (.exit i),r.2)
     | e=>some (e,r.2)
 | .loop b, s => match s.hs with
   | .abs ins e outs st' :: hs=>LY N (cZ C ck f rounds ro (.loop b)) (dI (.loop b)) ins e outs st' hs s
   | _=>none
 | .exit id,s=>some (.exit id,s)
 | .label _,s=>some (.normal,s)
 | .scope b,s=>n4 C ck f rounds ro N b s
 | .ret,s=>some (.ret,s)
 | _,_=>none
def Pk (C:AO)(ck:CK)(f:FuncId)(rounds:Nat)(ro:Option Nat)(N:Nat)(c:Code)(hs:List Hint)(ins:List (Nat×AV))(st:St)(want:List Nat):Option (List Prop×cE×List (Nat×AV)×St):=
 (BX N .leaf ins).bind fun ov=>(n4 C ck f rounds ro N c ⟨ov,st,hs,[],[]⟩).bind fun r=>cond (!r.2.ds.isEmpty) none<|(GQ r.2.ov want).bind fun outs=>some (r.2.cs,r.1,outs,r.2.st)
def Nf (P : Program) (s : OS) : ResultVar → Option (AV × OS)
 | .tmp t=>(s.ov.get t).bind fun v=>some (v,s)
 | .cell a t => (s.ov.get a).bind fun p => match s.hs with
   | .val v :: hs=>some (v,{ s with hs:=hs,cs:=(loadAt P s.st t p=some v) :: s.cs })
   | _=>(loadAt P s.st t p).bind fun v=>some (v,s)
def DR (P:Program)(s:OS):List ResultVar→Option (List AV×OS)
 | []=>some ([],s)
 | r :: rs=>(Nf P s r).bind fun v=>(DR P v.2 rs).bind fun vs=>some (v.1 :: vs.1,vs.2)
def Ie:Nat→List AV→List (Nat×AV)
 | _,[]=>[]
 | i,a :: a_=>(i,a) :: Ie (i+1) a_
def Io (ck : CK) : List oK → OS → Option OS
 | [],s=>some s
 | .call g a_ :: ds, s => match s.hs with
   | .call v st' :: hs=>Io ck ds { s with st:=st',hs:=hs,cs:=EN ck g a_ s.st v st' :: s.cs }
   | _=>none
 | _,_=>none
def Mw (C : AO) (ck : CK) (f : FuncId) (rounds : Nat) (hs : List Hint) (args : List AV) (st : St) : Option (List Prop × AV × St) :=
 (C.P.funcs[f]?).bind fun fn=>cond (fn.name == "runtime.NumGoroutine" || Nat.blt fn.ntmps args.length) none<|(fn.body).bind fun c=>
  (BX fn.ntmps .leaf (Ie 0 args)).bind fun ov=>(n4 C ck f rounds none fn.ntmps c ⟨ov,st,hs,[],[]⟩).bind fun r=>match r.1 with
   | .exit _=>none
   | _=>(Io ck r.2.ds r.2).bind fun s=>(DR C.P s fn.results.toList).bind fun vs=>some (vs.2.cs,single vs.1,vs.2.st)
def MW (C : AO) (ck : CK) (f : FuncId) (rounds : Nat) (hs : List Hint) (args : List AV) (st : St) : Option (List Prop × AV × St) :=
 (C.P.funcs[f]?).bind fun fn=>cond (fn.name == "runtime.NumGoroutine" || Nat.blt fn.ntmps args.length) none<|(fn.body).bind fun c=>
  (BX fn.ntmps .leaf (Ie 0 args)).bind fun ov=>(n4 C ck f rounds none fn.ntmps c ⟨ov,st,hs,[],[]⟩).bind fun r=>match r.1 with
   | .exit _=>none
   | _=>cond (!r.2.ds.isEmpty) none<|(DR C.P r.2 fn.results.toList).bind fun vs=>some (vs.2.cs,single vs.1,vs.2.st)
end Go.Ev
end
