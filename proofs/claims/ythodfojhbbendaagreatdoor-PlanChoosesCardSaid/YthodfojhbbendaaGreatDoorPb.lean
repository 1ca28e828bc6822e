/- PlanChooses, part 2 of 11 of its proof (what is proved: whatever the text is, the law answers true; conditions: those each theorem states). Joined and shortened by a program. In order: EvI: Slices, addresses, fields, and: what yields a value alone does so in the model. | EvJ: Loads, stores, what is new. | EvK: Appends, bytes as a text, and: what turns the store does so in the model. | EvO: Maps, walks over them, copies, and all else that turns the store: as in the model. | EvP: Walks over maps, copies, what is cleared; looks; all operations. | EvT: Copies, what is cleared, texts that share bytes, looks; all operations that make no call. -/
import Derived.Test.YthodfojhbbendaaGreatDoorPa
import Derived.Laws.MakeOwn
import Derived.Laws.AppendOwn
import Derived.Laws.BytesArg
import Derived.Lib.ConvBytes
import Derived.Deep.AppendSrc
import Derived.Deep.Upon
import Derived.Lib.UnsafeStr
import Derived.MapKept
section
set_option linter.all false
namespace Go.Ev
open Go.RowKit (Below)
section
variable {P:Program}{G:Gh}{st:St}{w:World}
theorem BH {x:AV}{i:Int}{u:Value}(h:intOf x=some i)(hx:aV G st w x u):∃ k,u=.int k i:=by
 unfold intOf at h
 split at h
 ·injection h with h; subst h; simp only[aV] at hx; exact⟨_,hx⟩
 ·cases h
theorem yD {x:AV}{n m:Nat}{u:Value}(h:within x n=some m)(hx:aV G st w x u):∃ k,u=.int k (m:Int)∧m≤n:=by
 simp only[within,Option.bind_eq_some_iff] at h
 obtain⟨i,hi,h⟩:=h
 obtain⟨k,rfl⟩:=BH hi hx
 split at h
 ·obtain⟨h1,h2⟩:=b7 h
  injection h2 with h2
  subst h2
  exact⟨k,rfl,Nat.le_of_ble_eq_true h1⟩
 ·cases h
theorem run_sliceBound {x:AV}{n n' m:Nat}{u:Value}{code:BoundsCode}(h:within x n=some m)(hx:aV G st w x u)(hn:n≤n'):(Instr.sliceBound u n' code).run P w=.ok m w:=by
 obtain⟨k,rfl,h1⟩:=yD h hx
 have h2:m≤n':=by omega
 simp[Instr.sliceBound,asIntOf,h2]
def uQ (G:Gh)(st:St)(w:World):Option AV→Option Value→Prop
 | none,v=>v=none
 | some a,v=>∃ u,v=some u∧aV G st w a u
theorem uQ.opt {ts:List AV}{a:Act}(h:aT G st w ts a.tmps.toList){x:Option Operand}{v:Option AV}(hv:Dn ts x=some v):uQ G st w v (x.map a.eval):=by
 cases x with
 | none=>simp only[Dn] at hv; injection hv with hv; subst hv; rfl
 | some x =>
   simp only[Dn,Option.bind_eq_some_iff] at hv
   obtain⟨u,h1,h2⟩:=hv
   injection h2 with h2
   subst h2
   exact⟨_,rfl,aV.cH h h1⟩
theorem nG {len cap:Nat}{low high max:Option AV}{l h m:Nat}(hb:bounds len cap low high max=some (l,h,m)):
 Af cap max=some m∧FB len m high max=some h∧Fe h low=some l:=by
 simp only[bounds,Option.bind_eq_some_iff,Option.some.injEq,Prod.mk.injEq] at hb
 obtain⟨m',h1,h',h2,l',h3,rfl,rfl,rfl⟩:=hb
 exact⟨h1,h2,h3⟩
theorem nL {isSlice : Bool} {len cap cap' : Nat} {low high max : Option AV} {low' high' max' : Option Value} {l h m : Nat}
 (hl:uQ G st w low low') (hh:uQ G st w high high') (hm:uQ G st w max max') (hb:bounds len cap low high max=some (l,h,m)) (hc:cap≤cap') (hlen:len≤cap):
 (Instr.sliceBounds isSlice len cap' low' high' max').run P w=.ok (l,h,if max.isSome then m else cap') w∧l≤h∧h≤cap∧(max.isSome=true→m≤cap∧h≤m):=by
 obtain⟨b1,b2,b3⟩:=nG hb
 have hhm:h≤m∧m≤cap:=by
  have hm1:m≤cap:=by
   cases max with
   | none=>simp only[Af,Option.some.injEq] at b1; omega
   | some v =>
     obtain⟨u,_,hu⟩:=hm
     exact(yD b1 hu).choose_spec.2
  cases high with
  | none =>
    cases max with
    | none=>simp only[Af,FB,Option.some.injEq] at b1 b2; omega
    | some v=>simp only[FB] at b2; cases b2
  | some v =>
    obtain⟨u,_,hu⟩:=hh
    have:=(yD b2 hu).choose_spec.2
    omega
 have hlh:l≤h:=by
  cases low with
  | none=>simp only[Fe,Option.some.injEq] at b3; omega
  | some v =>
    obtain⟨u,_,hu⟩:=hl
    exact(yD b3 hu).choose_spec.2
 refine⟨?_,hlh,by omega,fun _=>⟨hhm.2,hhm.1⟩⟩
 unfold Instr.sliceBounds
 cases max with
 | none =>
   simp only[uQ] at hm
   subst hm
   simp only[Af,Option.some.injEq] at b1
   cases high with
   | none =>
     simp only[uQ] at hh
     subst hh
     simp only[FB,Option.some.injEq] at b2
     subst b2
     cases low with
     | none =>
       simp only[uQ] at hl
       subst hl
       simp only[Fe,Option.some.injEq] at b3
       subst b3
       simp
     | some v =>
       obtain⟨u,rfl,hu⟩:=hl
       simp[run_sliceBound b3 hu (Nat.le_refl _)]
   | some hv =>
     obtain⟨uh,rfl,huh⟩:=hh
     have e1:∀ c,(Instr.sliceBound uh cap' c).run P w=.ok h w:=fun c=>run_sliceBound b2 huh (by omega)
     cases low with
     | none =>
       simp only[uQ] at hl
       subst hl
       simp only[Fe,Option.some.injEq] at b3
       subst b3
       simp[e1]
     | some v =>
       obtain⟨u,rfl,hu⟩:=hl
       simp[e1,run_sliceBound b3 hu (Nat.le_refl _)]
 | some mv =>
   obtain⟨um,rfl,hum⟩:=hm
   have e0:∀ c,(Instr.sliceBound um cap' c).run P w=.ok m w:=fun c=>run_sliceBound b1 hum hc
   cases high with
   | none=>simp only[FB] at b2; cases b2
   | some hv =>
     obtain⟨uh,rfl,huh⟩:=hh
     have e1:∀ c,(Instr.sliceBound uh m c).run P w=.ok h w:=fun c=>run_sliceBound b2 huh (Nat.le_refl _)
     cases low with
     | none =>
       simp only[uQ] at hl
       subst hl
       simp only[Fe,Option.some.injEq] at b3
       subst b3
       simp[e0,e1]
     | some v =>
       obtain⟨u,rfl,hu⟩:=hl
       simp[e0,e1,run_sliceBound b3 hu (Nat.le_refl _)]
theorem iD (b off n:Nat):(⟨b,off,none⟩:Addr).add n=⟨b,off+n,none⟩:=by
 unfold Addr.add
 split <;> simp_all
theorem Au {t : TypeId} {x : AV} {u : Value} {low high max : Option AV} {low' high' max' : Option Value} {v : AV} (hx : aV G st w x u) (hl : uQ G st w low low') (hh : uQ G st w high high')
 (hm:uQ G st w max max') (h:rW P t x low high max=some v):∃ r,(Instr.sliceAt t u low' high' max').run P w=.ok r w∧aV G st w v r:=by
 simp only[rW,Option.bind_eq_some_iff] at h
 obtain⟨d,hd,h⟩:=h
 split at h
 ·
  split at h
  ·cases h
  ·simp only[Option.bind_eq_some_iff] at h
   obtain⟨⟨l,hi,m⟩,hb,h⟩:=h
   injection h with h
   subst h
   simp only[aV] at hx
   subst hx
   simp only[uQ] at hm
   subst hm
   rename_i s _
   have hsz:(⟨s.toArray⟩:ByteArray).size=s.length:=by simp[ByteArray.size]
   obtain⟨hr,h1,h2,_⟩:=nL (P:=P) (isSlice:=false) (max:=none) hl hh rfl hb (Nat.le_refl _) (Nat.le_refl _)
   refine⟨.string ((⟨s.toArray⟩:ByteArray).extract l hi),?_,?_⟩
   ·simp[Instr.sliceAt,Instr.slice,run_underlying hd,hsz,hr]
   ·simp only[aV]
    congr 1
    apply ByteArray.ext
    simp[ByteArray.data_extract]
    rw[List.drop_take]
 ·
  split at h
  ·cases h
  ·simp only[Option.bind_eq_some_iff] at h
   obtain⟨⟨l,hi,m⟩,hb,h⟩:=h
   obtain⟨hhi,h⟩:=b7 h
   injection h with h
   subst h
   simp only[aV] at hx
   obtain⟨s,rfl,_,s2,s3⟩:=hx
   simp only[uQ] at hm
   subst hm
   have hsz:(⟨s.toArray⟩:ByteArray).size=s.length:=by simp[ByteArray.size]
   rename_i _ n _ _ _
   have hb':bounds s.length s.length low high none=some (l,hi,s.length)∧hi≤n:=by
    cases high with
    | none=>cases hhi
    | some v =>
      simp only[bounds,Af,FB,Option.bind_some,Option.bind_eq_some_iff] at hb ⊢
      obtain⟨h0,e1,l0,e2,e3⟩:=hb
      injection e3 with e3; injection e3 with e3 e4; injection e4 with e4 e5
      subst e3; subst e4
      simp only[within,Option.bind_eq_some_iff] at e1
      obtain⟨i,e6,e7⟩:=e1
      cases i with
      | negSucc _=>cases e7
      | ofNat kk =>
        simp only[Eu] at e7
        split at e7
        ·rename_i hle
         injection e7 with e7
         subst e7
         refine⟨⟨kk,?_,l0,e2,rfl⟩,hle⟩
         simp only[within,e6,Option.bind_some,Eu]
         rw[if_pos (by omega)]
        ·cases e7
   obtain⟨hr,h1,h2,_⟩:=nL (P:=P) (isSlice:=false) (max:=none) hl hh rfl hb'.1 (Nat.le_refl _) (Nat.le_refl _)
   refine⟨.string ((⟨s.toArray⟩:ByteArray).extract l hi),?_,?_⟩
   ·simp[Instr.sliceAt,Instr.slice,run_underlying hd,hsz,hr]
   ·simp only[aV]
    refine⟨(s.take hi).drop l,?_,fun _ h=>(by cases h),?_,?_⟩
    ·congr 1
     apply ByteArray.ext
     simp[ByteArray.data_extract]
     rw[List.drop_take]
    ·simp; omega
    ·simp; omega
 ·
  simp only[Option.bind_eq_some_iff] at h
  obtain⟨sz,hsz,⟨l,hi,m⟩,hb,h⟩:=h
  injection h with h
  subst h
  simp only[aV] at hx
  subst hx
  obtain⟨hr,h1,h2,h3⟩:=nL (P:=P) (isSlice:=true) hl hh hm hb (Nat.le_refl _) (Nat.le_refl _)
  have e1:hi=0:=by omega
  have e2:l=0:=by omega
  have e3:(if max.isSome then m else 0)=0:=by
   split
   ·have:=h3 (by assumption); omega
   ·rfl
  rw[e3] at hr
  subst e1; subst e2
  exact⟨.slice none 0 0,by simp[Instr.sliceAt,Instr.slice,run_underlying hd,hr,gQ hsz],by simp[aV]⟩
 ·
  rename_i elem id e len sz' cap cs
  simp only[Option.bind_eq_some_iff] at h
  obtain⟨sz,hsz,h⟩:=h
  have h0:=fK h
  clear h
  obtain⟨hq,h⟩:=h0
  have hq:sz=sz':=Nat.eq_of_beq_eq_true (by simpa using hq)
  subst hq
  simp only[aV] at hx
  obtain⟨b,off,c,m0,n0,rfl,x2,x3,x4,x5,x6,x7,x8,t0,x9,x10,x11,x12⟩:=hx
  have key:∀ l hi m,bounds len len low high max=some (l,hi,m)→ ∃ r,(Instr.sliceAt t (.slice (some ⟨b,off,none⟩) len c) low' high' max').run P w=.ok r w ∧
   (r=.slice (some (if(if max.isSome then m else c)=l then⟨b,off,none⟩ else⟨b,off+l * sz,none⟩)) (hi - l) ((if max.isSome then m else c) - l))∧l≤hi∧hi≤len∧(max.isSome=true→m≤len∧hi≤m):=by
   intro l hi m hb
   obtain⟨hr,h1,h2,h3⟩:=nL (P:=P) (isSlice:=true) hl hh hm hb x7 (Nat.le_refl _)
   generalize (if max.isSome then m else c)=M at hr ⊢
   refine⟨_,?_,rfl,h1,h2,h3⟩
   simp only[Instr.sliceAt,Instr.slice,Sem.run_bind,run_underlying hd,Result.andThen_ok,hr,gQ hsz,Sem.run_pure]
   congr 2
   split <;> simp[iD]
  have fin:∀ l hi m cap',bounds len len low high max=some (l,hi,m)→(∀ k,cap'=some k→(if max.isSome then m else c) - l=k) →
   ∃ r,(Instr.sliceAt t (.slice (some ⟨b,off,none⟩) len c) low' high' max').run P w=.ok r w∧aV G st w (.sl id (e - (len - hi) * sz) (hi - l) sz cap' ((cs.take (hi * sz)).drop (l * sz))) r:=by
   intro l hi m cap' hb hcap
   obtain⟨r,r1,r2,h1,h2,h3⟩:=key l hi m hb
   refine⟨r,r1,?_⟩
   rw[r2]
   generalize hM:(if max.isSome then m else c)=M at *
   have hM1:hi≤M:=by
    rw[← hM]; split
    ·exact(h3 (by assumption)).2
    ·omega
   have hM2:M≤c:=by
    rw[← hM]; split
    ·have:=(h3 (by assumption)).1; omega
    ·omega
   have p1:l * sz≤hi * sz:=Nat.mul_le_mul_right _ h1
   have p2:hi * sz≤len * sz:=Nat.mul_le_mul_right _ h2
   have p3:(hi - l) * sz=hi * sz - l * sz:=Nat.sub_mul _ _ _
   have p4:(len - hi) * sz=len * sz - hi * sz:=Nat.sub_mul _ _ _
   have hlen:((cs.take (hi * sz)).drop (l * sz)).length=(hi - l) * sz:=by simp; omega
   simp only[aV]
   have hat:∀ o,(M=l∧o=off)∨(M≠l∧o=off+l * sz)→dT G st w b o ((cs.take (hi * sz)).drop (l * sz))∧o+((cs.take (hi * sz)).drop (l * sz)).length≤m0:=by
    rintro o (⟨ho1,rfl⟩ | ⟨_,rfl⟩)
    ·have:(cs.take (hi * sz)).drop (l * sz)=[]:=by
      apply List.eq_nil_of_length_eq_zero
      rw[hlen]
      have:hi - l=0:=by omega
      rw[this]; simp
     rw[this]
     exact⟨by simp[dT],by simp; omega⟩
    ·exact⟨dT.drop (l * sz) (by simp; omega) (x4.take (hi * sz)),by rw[hlen]; omega⟩
   refine⟨b,if M=l then off else off+l * sz,M - l,m0,n0,by split <;> rfl,x2,?_,?_,hlen,x6,by omega,hcap,t0,x9,by omega,by rw[hlen]; omega,?_⟩
   ·exact(hat _ (by by_cases e:M=l; exact .inl ⟨e,if_pos e⟩; exact .inr ⟨e,if_neg e⟩)).2
   ·exact(hat _ (by by_cases e:M=l; exact .inl ⟨e,if_pos e⟩; exact .inr ⟨e,if_neg e⟩)).1
   ·intro f1 f2
    have g1:M≠l:=by omega
    have g2:len * sz - hi * sz=0:=by omega
    have g3:len=hi:=by
     have:(len - hi) * sz=0:=by omega
     rcases Nat.mul_eq_zero.1 this with h | h <;> omega
    subst g3
    have g4:len<c:=by omega
    obtain⟨y1,y2⟩:=x12 (by omega) g4
    rw[if_neg g1,hlen]
    have q1:(M - l) * sz=M * sz - l * sz:=Nat.sub_mul _ _ _
    have q2:l * sz≤M * sz:=Nat.mul_le_mul_right _ (by omega)
    have q3:M * sz≤c * sz:=Nat.mul_le_mul_right _ hM2
    omega
  split at h
  ·simp only[Option.bind_eq_some_iff] at h
   obtain⟨⟨l,hi,m⟩,hb,h⟩:=h
   injection h with h
   subst h
   refine fin l hi m _ hb ?_
   intro k hk
   cases cap with
   | none=>cases hk
   | some c' =>
     injection hk with hk
     subst hk
     rw[x8 c' rfl]
     simp
  ·simp only[Option.bind_eq_some_iff] at h
   obtain⟨⟨l,hi,m⟩,hb,h⟩:=h
   injection h with h
   subst h
   refine fin l hi m _ hb ?_
   intro k hk
   injection hk with hk
 ·
  rename_i elem id off len sz' cap
  simp only[Option.bind_eq_some_iff] at h
  obtain⟨sz,hsz,h⟩:=h
  have h0:=fK h
  clear h
  obtain⟨hq,h⟩:=h0
  have hq:sz=sz':=Nat.eq_of_beq_eq_true (by simpa using hq)
  subst hq
  simp only[aV] at hx
  obtain⟨b,k0,n0,c,x1,rfl,x3,x4,x5,x6⟩:=hx
  split at h
  ·rename_i c'
   obtain rfl:=x4 c' rfl
   simp only[Option.bind_eq_some_iff] at h
   obtain⟨⟨l,hi,m⟩,hb,h⟩:=h
   injection h with h
   subst h
   obtain⟨hr,h1,h2,h3⟩:=nL (P:=P) (isSlice:=true) hl hh hm hb (Nat.le_refl _) x3
   have hM:(if max.isSome then m else c)=m:=by
    cases hmx:max with
    | none=>have:=(nG hb).1; rw[hmx] at this; simp only[Af,Option.some.injEq] at this; simp[this]
    | some _=>simp
   rw[hM] at hr
   have hmc:hi≤m:=by
    cases hmx:max with
    | none=>rw[hmx] at hM; simp at hM; omega
    | some _=>exact(h3 (by simp[hmx])).2
   refine⟨_,by simp only[Instr.sliceAt,Instr.slice,Sem.run_bind,run_underlying hd,Result.andThen_ok,hr,gQ hsz,Sem.run_pure] <;> rfl,?_⟩
   simp only[aV]
   refine⟨b,k0,n0,m - l,x1,?_,by omega,(fun k hk=>by injection hk),(fun e=>by cases e),x6⟩
   rw[iN]
   congr 1
   split <;> simp[iD]
  ·simp only[Option.bind_eq_some_iff] at h
   obtain⟨⟨l,hi,m⟩,hb,h⟩:=h
   obtain⟨hr,h1,h2,h3⟩:=nL (P:=P) (isSlice:=true) hl hh hm hb x3 (Nat.le_refl _)
   refine⟨_,by simp only[Instr.sliceAt,Instr.slice,Sem.run_bind,run_underlying hd,Result.andThen_ok,hr,gQ hsz,Sem.run_pure] <;> rfl,?_⟩
   cases hq:(Nat.blt l m || Nat.beq l 0) with
   | false =>
     simp only[hq,cond_false] at h
     injection h with h
     subst h
     simp only[Bool.or_eq_false_iff] at hq
     have g1:m≤l:=by
      have:=hq.1
      rcases Nat.lt_or_ge l m with h | h
      ·rw[show Nat.blt l m=true from Nat.ble_eq_true_of_le h] at this; cases this
      ·exact h
     have g2:hi≤m:=by
      cases hmx:max with
      | none =>
        have:=(nG hb).1; rw[hmx] at this; simp only[Af,Option.some.injEq] at this; omega
      | some _=>exact(h3 (by simp[hmx])).2
     have g3:hi - l=0:=by omega
     simp only[aV,g3]
     simp only[Option.map_some,iD]
     split <;> (split <;> exact⟨_,_,_,rfl⟩)
   | true=>
   simp only[hq,cond_true] at h
   injection h with h
   subst h
   have hml:max=none→m=len:=fun e=>by
    have:=(nG hb).1; rw[e] at this; simp only[Af,Option.some.injEq] at this; exact this.symm
   have hML:(if max.isSome then m else c)=l→l=0:=fun e=>by
    rw[Bool.or_eq_true] at hq
    rcases hq with hq | hq
    ·have:=Nat.le_of_ble_eq_true hq
     split at e
     ·omega
     ·have:=hml (by simpa using(by assumption:¬ max.isSome=true))
      omega
    ·exact Nat.eq_of_beq_eq_true hq
   have hlM:l≤(if max.isSome then m else c):=by
    split
    ·have:=(h3 (by assumption)).2; omega
    ·omega
   simp only[aV]
   refine⟨b,k0,n0,(if max.isSome then m else c) - l,x1,?_,?_,(fun k hk=>?_),(fun e=>?_),x6⟩
   ·congr 1
    generalize (if max.isSome then m else c)=M at *
    split
    ·have:=hML (by assumption)
     subst this
     simp
    ·simp[iD]
   ·split
    ·have:=(h3 (by assumption)).2; omega
    ·omega
   ·simp only[Option.bind_eq_some_iff,Option.some.injEq] at hk
    obtain⟨_,hk0,rfl⟩:=hk
    simp[hk0]
   ·have hmx:max=none:=by
     cases hmx:max with
     | none=>rfl
     | some _=>rw[hmx] at e; cases e
    have hmx':max.isSome=false:=by rw[hmx]; rfl
    obtain⟨y1,y2⟩:=x5 rfl
    simp only[hmx',Bool.false_eq_true,if_false] at hlM ⊢
    have e1:l * sz+(c - l) * sz=c * sz:=by rw[← Nat.add_mul]; congr 1; omega
    omega
 ·
  rename_i elem b off len c
  simp only[Option.bind_eq_some_iff] at h
  obtain⟨sz,hsz,⟨l,hi,m⟩,hb,h⟩:=h
  injection h with h
  subst h
  simp only[aV] at hx
  obtain⟨rfl,x3⟩:=hx
  obtain⟨hr,h1,h2,h3⟩:=nL (P:=P) (isSlice:=true) hl hh hm hb (Nat.le_refl _) x3
  have hM:(if max.isSome then m else c)=m:=by
   cases hmx:max with
   | none=>have:=(nG hb).1; rw[hmx] at this; simp only[Af,Option.some.injEq] at this; simp[this]
   | some _=>simp
  rw[hM] at hr
  have hmc:hi≤m:=by
   cases hmx:max with
   | none=>rw[hmx] at hM; simp at hM; omega
   | some _=>exact(h3 (by simp[hmx])).2
  refine⟨_,by simp only[Instr.sliceAt,Instr.slice,Sem.run_bind,run_underlying hd,Result.andThen_ok,hr,gQ hsz,Sem.run_pure] <;> rfl,?_⟩
  simp only[aV]
  refine⟨?_,by omega⟩
  rw[iN]
  congr 1
  split <;> simp[iD]
 ·
  rename_i n elem id off
  simp only[Option.bind_eq_some_iff] at h
  obtain⟨sz,hsz,h⟩:=h
  have h0:=fK h
  clear h
  obtain⟨hq,h⟩:=h0
  have hs0:0<sz:=by
   rcases Nat.eq_zero_or_pos sz with rfl | h
   ·simp at hq
   ·exact h
  simp only[Option.bind_eq_some_iff] at h
  obtain⟨⟨l,hi,m⟩,hb,h⟩:=h
  injection h with h
  subst h
  simp only[aV] at hx
  obtain⟨b,k0,n0,x1,rfl⟩:=hx
  obtain⟨hr,h1,h2,h3⟩:=nL (P:=P) (isSlice:=false) hl hh hm hb (Nat.le_refl _) (Nat.le_refl _)
  have hM:(if max.isSome then m else n)=m:=by
   cases hmx:max with
   | none=>have:=(nG hb).1; rw[hmx] at this; simp only[Af,Option.some.injEq] at this; simp[this]
   | some _=>simp
  rw[hM] at hr
  have hmc:hi≤m:=by
   cases hmx:max with
   | none=>rw[hmx] at hM; simp at hM; omega
   | some _=>exact(h3 (by simp[hmx])).2
  refine⟨_,by simp only[Instr.sliceAt,Instr.sureAddr,Sem.run_bind,run_underlying hd,Result.andThen_ok,hr,gQ hsz,Sem.run_pure] <;> rfl,?_⟩
  simp only[aV]
  refine⟨b,k0,n0,m - l,x1,?_,by omega,(fun k hk=>by injection hk),(fun e=>by cases e),hs0⟩
  rw[iN]
  congr 1
  split <;> simp[iD]
 ·cases h
theorem Fo {t : TypeId} {id off len sz' room : Nat} {u : Value} {low high max : Option AV} {low' high' max' : Option Value} {v : AV} (hx : aV G st w (.j9 id off len sz' none) u) (hl : uQ G st w low low') (hh : uQ G st w high high')
 (hm:uQ G st w max max') (hrm:∀ b k n,G.β id=some (b,k,n)→ ∀ c,k≤off+c * sz'→room≤c) (h:BL P t id off len sz' room low high max=some v):∃ r,(Instr.sliceAt t u low' high' max').run P w=.ok r w∧aV G st w v r:=by
 simp only[BL,Option.bind_eq_some_iff] at h
 obtain⟨d,hd,h⟩:=h
 split at h
 rotate_left
 ·cases h
 simp only[Option.bind_eq_some_iff] at h
 obtain⟨sz,hsz,h⟩:=h
 have h0:=fK h
 clear h
 obtain⟨hq,h⟩:=h0
 simp only[Bool.or_eq_false_iff,Bool.not_eq_false'] at hq
 obtain⟨hq,hlen⟩:=hq
 have hq:sz=sz':=Nat.eq_of_beq_eq_true hq
 subst hq
 have hlen:len≤room:=Nat.le_of_ble_eq_true hlen
 simp only[aV] at hx
 obtain⟨b,k0,n0,c,x1,rfl,x3,x4,x5,x6⟩:=hx
 have hroom:room≤c:=hrm b k0 n0 x1 c (x5 trivial).1
 simp only[Option.bind_eq_some_iff] at h
 obtain⟨⟨l,hi,m⟩,hb,h⟩:=h
 obtain⟨hr,h1,h2,h3⟩:=nL (P:=P) (isSlice:=true) hl hh hm hb hroom hlen
 refine⟨_,by simp only[Instr.sliceAt,Instr.slice,Sem.run_bind,run_underlying hd,Result.andThen_ok,hr,gQ hsz,Sem.run_pure] <;> rfl,?_⟩
 cases hq:(Nat.blt l m || Nat.beq l 0) with
 | false =>
   simp only[hq,cond_false] at h
   injection h with h
   subst h
   simp only[Bool.or_eq_false_iff] at hq
   have g1:m≤l:=by
    have:=hq.1
    rcases Nat.lt_or_ge l m with h | h
    ·rw[show Nat.blt l m=true from Nat.ble_eq_true_of_le h] at this; cases this
    ·exact h
   have g2:hi≤m:=by
    cases hmx:max with
    | none =>
      have:=(nG hb).1; rw[hmx] at this; simp only[Af,Option.some.injEq] at this; omega
    | some _=>exact(h3 (by simp[hmx])).2
   have g3:hi - l=0:=by omega
   simp only[aV,g3]
   simp only[Option.map_some,iD]
   split <;> (split <;> exact⟨_,_,_,rfl⟩)
 | true=>
 simp only[hq,cond_true] at h
 injection h with h
 subst h
 have hml:max=none→m=room:=fun e=>by
  have:=(nG hb).1; rw[e] at this; simp only[Af,Option.some.injEq] at this; exact this.symm
 have hML:(if max.isSome then m else c)=l→l=0:=fun e=>by
  rw[Bool.or_eq_true] at hq
  rcases hq with hq | hq
  ·have:=Nat.le_of_ble_eq_true hq
   split at e
   ·omega
   ·have:=hml (by simpa using(by assumption:¬ max.isSome=true))
    omega
  ·exact Nat.eq_of_beq_eq_true hq
 have hlM:l≤(if max.isSome then m else c):=by
  split
  ·have:=(h3 (by assumption)).2; omega
  ·omega
 simp only[aV]
 refine⟨b,k0,n0,(if max.isSome then m else c) - l,x1,?_,?_,(fun k hk=>?_),(fun e=>?_),x6⟩
 ·congr 1
  generalize (if max.isSome then m else c)=M at *
  split
  ·have:=hML (by assumption)
   subst this
   simp
  ·simp[iD]
 ·split
  ·have:=(h3 (by assumption)).2; omega
  ·omega
 ·simp only[Option.bind_eq_some_iff,Option.some.injEq] at hk
  obtain⟨_,hk0,rfl⟩:=hk
  simp[hk0]
 ·have hmx:max=none:=by
   cases hmx:max with
   | none=>rfl
   | some _=>rw[hmx] at e; cases e
  have hmx':max.isSome=false:=by rw[hmx]; rfl
  obtain⟨y1,y2⟩:=x5 trivial
  simp only[hmx',Bool.false_eq_true,if_false] at hlM ⊢
  have e1:l * sz+(c - l) * sz=c * sz:=by rw[← Nat.add_mul]; congr 1; omega
  omega
theorem DO {x v:AV}{u:Value}{n:Nat}(hx:aV G st w x u)(h:shift x n=some v):∃ b off,u=.pointer (some ⟨b,off,none⟩)∧aV G st w v (.pointer (some ⟨b,off+n,none⟩)):=by
 unfold shift at h
 split at h
 ·injection h with h; subst h
  simp only[aV] at hx ⊢
  obtain⟨b,k0,n0,h1,rfl⟩:=hx
  exact⟨b,_,rfl,b,k0,n0,h1,rfl⟩
 ·obtain⟨h1,h⟩:=b7 h
  injection h with h; subst h
  have h1:=Nat.le_of_ble_eq_true h1
  simp only[aV] at hx ⊢
  obtain⟨b,off,id,m,n',rfl,h2,h3,h4⟩:=hx
  exact⟨b,off,rfl,b,off+n,id,m,n',rfl,h2,by simp; omega,h4.drop n h1⟩
 ·injection h with h; subst h
  simp only[aV] at hx ⊢
  subst hx
  exact⟨_,_,rfl,rfl⟩
 ·cases h
theorem F9 {s:TypeId}{i:Nat}{fd:Field}(h:Dw P s i=some fd):∃ fs,P.underlying s=some (.struct fs)∧fs[i]? =some fd:=by
 simp only[Dw,Option.bind_eq_some_iff] at h
 obtain⟨d,h1,h2⟩:=h
 split at h2
 ·exact⟨_,h1,h2⟩
 ·cases h2
theorem Bh {a b:Nat}(h:Nat.blt a b=true):a<b:=Nat.le_of_ble_eq_true h
theorem Fh {t : TypeId} {x ix v : AV} {u ui : Value} (hx : aV G st w x u) (hi : aV G st w ix ui) (h : bA P t x ix = some v) :
 ∃ r,(Instr.indexAt t u ui).run P w=.ok r w∧aV G st w v r:=by
 simp only[bA,Option.bind_eq_some_iff] at h
 obtain⟨d,hd,i,hi0,h⟩:=h
 obtain⟨k,rfl⟩:=BH hi0 hi
 split at h
 ·cases h
 ·rename_i n
  split at h
  ·rename_i elem _ _ len sz' _ cs
   simp only[Option.bind_eq_some_iff] at h
   obtain⟨sz,hsz,h⟩:=h
   have h0:=b7 h
   clear h
   obtain⟨hq,h⟩:=h0
   simp only[Bool.and_eq_true] at hq
   have q1:n<len:=Bh hq.1
   have q2:sz=sz':=Nat.eq_of_beq_eq_true hq.2
   subst q2
   simp only[aV] at hx
   obtain⟨b,off,c,m0,n0,rfl,x2,x3,x4,x5,x6,_⟩:=hx
   have hv:aV G st w (.pM cs) (.pointer (some ⟨b,off,none⟩)):=by
    simp only[aV]; exact⟨b,off,_,m0,n0,rfl,x2,x3,x4⟩
   obtain⟨b',off',e,hr⟩:=DO hv h
   injection e with e; injection e with e; injection e with e1 e2; subst e1; subst e2
   exact⟨_,by simp[Instr.indexAt,asIntOf,run_underlying hd,q1,gQ hsz,iD],hr⟩
  ·rename_i elem id off len sz' cap
   simp only[Option.bind_eq_some_iff] at h
   obtain⟨sz,hsz,h⟩:=h
   have h0:=b7 h
   clear h
   obtain⟨hq,h⟩:=h0
   simp only[Bool.and_eq_true] at hq
   have q1:n<len:=Bh hq.1
   injection h with h
   subst h
   simp only[aV] at hx
   obtain⟨b,k0,n0,c,x1,rfl,_⟩:=hx
   exact⟨_,by simp[Instr.indexAt,asIntOf,run_underlying hd,q1,gQ hsz,iD] <;> rfl,by simp only[aV]; exact⟨b,k0,n0,x1,rfl⟩⟩
  ·rename_i elem b off len c
   simp only[Option.bind_eq_some_iff] at h
   obtain⟨sz,hsz,h⟩:=h
   have h0:=b7 h
   clear h
   obtain⟨hq,h⟩:=h0
   have q1:n<len:=Bh hq
   injection h with h
   subst h
   simp only[aV] at hx
   obtain⟨rfl,_⟩:=hx
   exact⟨_,by simp[Instr.indexAt,asIntOf,run_underlying hd,q1,gQ hsz,iD] <;> rfl,by simp only[aV]⟩
  ·rename_i N elem
   simp only[Option.bind_eq_some_iff] at h
   obtain⟨sz,hsz,h⟩:=h
   have h0:=b7 h
   clear h
   obtain⟨hq,h⟩:=h0
   have q1:n<N:=Bh hq
   obtain⟨b,off,rfl,hr⟩:=DO hx h
   exact⟨_,by simp[Instr.indexAt,Instr.sureAddr,asIntOf,run_underlying hd,q1,gQ hsz,iD],hr⟩
  ·cases h
theorem Kw {t : TypeId} {x ix v : AV} {u ui : Value} (hx : aV G st w x u) (hi : aV G st w ix ui) (h : Ct P t x ix = some v) :
 ∃ r,(Instr.index t u ui).run P w=.ok r w∧aV G st w v r:=by
 simp only[Ct,Option.bind_eq_some_iff] at h
 obtain⟨d,hd,i,hi0,h⟩:=h
 obtain⟨k,rfl⟩:=BH hi0 hi
 split at h
 ·cases h
 ·rename_i n
  split at h
  ·rename_i s
   simp only[Option.bind_eq_some_iff] at h
   obtain⟨b,hb,h⟩:=h
   injection h with h
   subst h
   simp only[aV] at hx
   subst hx
   have:(⟨s.toArray⟩:ByteArray)[n]? =some b:=by
    have hlt:=(List.getElem?_eq_some_iff.1 hb)
    obtain⟨h1,h2⟩:=hlt
    have:n<(⟨s.toArray⟩:ByteArray).size:=by simpa[ByteArray.size] using h1
    have e:(⟨s.toArray⟩:ByteArray)[n]? =some ((⟨s.toArray⟩:ByteArray)[n]'this):=by simp[this]
    rw[e,← h2]
    rfl
   exact⟨_,by simp[Instr.index,asIntOf,run_underlying hd,this] <;> rfl,by simp[aV]⟩
  ·rename_i N elem cs
   simp only[Option.bind_eq_some_iff] at h
   obtain⟨sz,hsz,h⟩:=h
   have h0:=b7 h
   clear h
   obtain⟨hq,h⟩:=h0
   have q1:n<N:=Bh hq
   simp only[aV] at hx
   obtain⟨vs,rfl,hx⟩:=hx
   obtain⟨r,r1,r2⟩:=wE hx h
   exact⟨r,by simp[Instr.index,asIntOf,run_underlying hd,q1,gQ hsz,r1],r2⟩
  ·cases h
theorem HK {x v:AV}{u:Value}(hx:aV G st w x u)(h:aZ x=some v)(ρ:Operand→Value)(o:Oper)(y:Operand)(ho:o.op=.nilCheck y)(hy:ρ y=u):
 ∃ r,(execOp ρ o).run P w=.ok (.value r) w∧aV G st w v r:=by
 unfold aZ at h
 split at h <;> first | (cases h; done) | skip
 all_goals
  injection h with h
  subst h
  have hx':=hx
  simp only[aV] at hx
 ·obtain⟨b,_,_,_,rfl⟩:=hx; exact⟨_,by simp[execOp,ho,hy],hx'⟩
 ·obtain⟨b,_,_,_,_,rfl,_⟩:=hx; exact⟨_,by simp[execOp,ho,hy],hx'⟩
 ·subst hx; exact⟨_,by simp[execOp,ho,hy],hx'⟩
 ·obtain⟨_,_,rfl,_⟩:=hx; exact⟨_,by simp[execOp,ho,hy],hx'⟩
 ·obtain⟨_,rfl,_⟩:=hx; exact⟨_,by simp[execOp,ho,hy],hx'⟩
theorem FZ {s xt:TypeId}{y:Value}{ok:Bool}{d:TypeDesc}(hd:P.underlying s=some d)(hni:∀ ms,d≠.interface ms):
 (Instr.typeAssert (.iface s y) xt s ok).run P w=.ok (if ok then .tuple #[y,.bool true] else y) w:=by
 unfold Instr.typeAssert
 simp only[Sem.run_bind,run_underlying hd,Result.andThen_ok]
 cases d <;> first | exact absurd rfl (hni _) | (cases ok <;> simp)
theorem Fz {s t xt:TypeId}{y z:Value}{d:TypeDesc}(hd:P.underlying t=some d)(hni:∀ ms,d≠.interface ms)(hne:s≠t)(hz:(zeroValue t).run P w=.ok z w):
 (Instr.typeAssert (.iface s y) xt t true).run P w=.ok (.tuple #[z,.bool false]) w:=by
 unfold Instr.typeAssert
 simp only[Sem.run_bind,run_underlying hd,Result.andThen_ok]
 cases d <;> first | exact absurd rfl (hni _) | simp[hne,hz]
theorem Ez {t xt:TypeId}{z:Value}{d:TypeDesc}(hd:P.underlying t=some d)(hni:∀ ms,d≠.interface ms)(hz:(zeroValue t).run P w=.ok z w):
 (Instr.typeAssert .nilIface xt t true).run P w=.ok (.tuple #[z,.bool false]) w:=by
 unfold Instr.typeAssert
 simp only[Sem.run_bind,run_underlying hd,Result.andThen_ok]
 cases d <;> first | exact absurd rfl (hni _) | simp[hz]
theorem D4 {x v:AV}{u:Value}{xt t:TypeId}{ok:Bool}(hr:aV G st w x u)(h:FP P t ok x=some v):
 ∃ r,(Instr.typeAssert u xt t ok).run P w=.ok r w∧aV G st w v r:=by
 simp only[FP,Option.bind_eq_some_iff] at h
 obtain⟨d,hd,h⟩:=h
 split at h
 ·cases h
 ·rename_i s y hni
  have hni':∀ ms,d≠.interface ms:=fun ms e=>hni ms e
  simp only[aV] at hr
  obtain⟨y',rfl,hy⟩:=hr
  cases hb:Nat.beq s t with
  | true =>
    rw[hb] at h
    have:=Nat.eq_of_beq_eq_true hb
    subst this
    injection h with h
    subst h
    refine⟨_,FZ hd hni',?_⟩
    cases ok with
    | true=>simp only[cond_true,if_true,aV]; exact⟨_,rfl,aT.cons hy (aT.cons (by simp only[aV]) aT.nil)⟩
    | false=>simpa using hy
  | false =>
    rw[hb] at h
    simp only[cond_false] at h
    have hne:s≠t:=by rintro rfl; simp at hb
    have h0:=b7 h
    clear h
    obtain⟨ho,h⟩:=h0
    subst ho
    simp only[Option.bind_eq_some_iff] at h
    obtain⟨z,hz,h⟩:=h
    injection h with h
    subst h
    obtain⟨zv,z1,z2,_⟩:=rT (G:=G) (st:=st) hz w
    exact⟨_,Fz hd hni' hne z1,by simp only[aV]; exact⟨_,rfl,aT.cons z2 (aT.cons (by simp only[aV]) aT.nil)⟩⟩
 ·rename_i hni
  have hni':∀ ms,d≠.interface ms:=fun ms e=>hni ms e
  simp only[aV] at hr
  subst hr
  have h0:=b7 h
  clear h
  obtain⟨ho,h⟩:=h0
  subst ho
  simp only[Option.bind_eq_some_iff] at h
  obtain⟨z,hz,h⟩:=h
  injection h with h
  subst h
  obtain⟨zv,z1,z2,_⟩:=rT (G:=G) (st:=st) hz w
  exact⟨_,Ez hd hni' z1,by simp only[aV]; exact⟨_,rfl,aT.cons z2 (aT.cons (by simp only[aV]) aT.nil)⟩⟩
 ·cases h
theorem CS {ts : List AV} {a : Act} {o : Oper} {v : AV} (hts : aT G st w ts a.tmps.toList) (hk : lZ P o.op = .pure) (h : gC P ts o.op = some v) :
 ∃ r,(execOp a.eval o).run P w=.ok (.value r) w∧aV G st w v r:=by
 have val:∀{s:Sem Value} {r:Value},s.run P w=.ok r w→((do pure (.value (← s)):Sem Next)).run P w=.ok (.value r) w:=fun h=>by simp[h]
 unfold gC at h
 split at h
 case h_1 x ho=>exact⟨_,by simp[execOp,ho] <;> rfl,aV.cH hts h⟩
 case h_2 x ho=>exact⟨_,by simp[execOp,ho] <;> rfl,aV.cH hts h⟩
 case h_3 c x y ho=>
  simp only[Option.bind_eq_some_iff] at h
  obtain⟨cv,hc,h⟩:=h
  have hcr:=aV.cH hts hc
  split at h
  ·simp only[aV] at hcr
   exact⟨_,by simp[execOp,ho,hcr,asBool] <;> rfl,aV.cH hts h⟩
  ·simp only[aV] at hcr
   exact⟨_,by simp[execOp,ho,hcr,asBool] <;> rfl,aV.cH hts h⟩
  ·cases h
 case h_4 t ps ho=>
  simp only[Option.bind_eq_some_iff] at h
  obtain⟨l,hl,h⟩:=h
  obtain⟨r,r1,r2⟩:=Ia hts hl h
  exact⟨r,by simp only[execOp,ho]; exact val r1,r2⟩
 case h_5 x ho=>
  simp only[Option.bind_eq_some_iff] at h
  obtain⟨u,hu,h⟩:=h
  exact HK (aV.cH hts hu) h a.eval o x ho rfl
 case h_6 op t x y yt ho=>
  simp only[Option.bind_eq_some_iff] at h
  obtain⟨u,hu,u',hu',h⟩:=h
  obtain⟨r,r1,r2⟩:=JU (aV.cH hts hu) (aV.cH hts hu') h
  exact⟨r,by simp only[execOp,ho]; exact val r1,r2⟩
 case h_7 op t x ho=>
  simp only[Option.bind_eq_some_iff] at h
  obtain⟨u,hu,h⟩:=h
  obtain⟨r,r1,r2⟩:=L3 (aV.cH hts hu) h
  exact⟨r,by simp only[execOp,ho]; exact val r1,r2⟩
 case h_8 s d x ho=>
  simp only[Option.bind_eq_some_iff] at h
  obtain⟨u,hu,ds,hs,dd,hd,h⟩:=h
  obtain⟨r,r1,r2⟩:=HF hs hd (aV.cH hts hu) h
  exact⟨r,by simp only[execOp,ho]; exact val r1,r2⟩
 case h_9 t x ho=>
  simp only[Option.bind_eq_some_iff] at h
  obtain⟨u,hu,d,hd,h⟩:=h
  have hr:=aV.cH hts hu
  split at h
  ·cases h
  ·injection h with h
   subst h
   refine⟨.iface t (a.eval x),?_,by simp only[aV]; exact⟨_,rfl,hr⟩⟩
   simp only[execOp,ho]
   refine val ?_
   simp only[Instr.makeInterface,Sem.run_bind,run_underlying hd,Result.andThen_ok]
   first | rfl | (split <;> first | rfl | simp_all)
 case h_10 fn first cap ho=>
  simp only[Option.bind_eq_some_iff] at h
  obtain⟨l,hl,l',hl',h⟩:=h
  injection h with h
  subst h
  refine⟨.func fn (first.map a.eval) (cap.map a.eval),by simp[execOp,ho,Instr.makeFunc],?_⟩
  simp only[aV]
  exact⟨_,_,rfl,by simpa using aT.cU hts hl,by simpa using aT.cU hts hl'⟩
 case h_11 t x lo hi mx ho=>
  simp only[Option.bind_eq_some_iff] at h
  obtain⟨u,hu,lo',hlo,hi',hhi,mx',hmx,h⟩:=h
  obtain⟨r,r1,r2⟩:=Au (aV.cH hts hu) (uQ.opt hts hlo) (uQ.opt hts hhi) (uQ.opt hts hmx) h
  exact⟨r,by simp only[execOp,ho]; exact val r1,r2⟩
 case h_12 s x i ho=>
  simp only[Option.bind_eq_some_iff] at h
  obtain⟨u,hu,fd,hf,n,hn,h⟩:=h
  obtain⟨hq,h⟩:=fK h
  obtain⟨fs,f1,f2⟩:=F9 hf
  obtain⟨b,off,e,hr⟩:=DO (aV.cH hts hu) h
  refine⟨_,?_,hr⟩
  simp only[execOp,ho]
  refine val ?_
  have hn0:n≠0:=by rintro rfl; simp at hq
  simp[Instr.fieldAt,run_underlying f1,f2,e,Instr.sureAddr,fieldPlace,gQ hn,hn0,iD]
 case h_13 s x i ho=>
  simp only[Option.bind_eq_some_iff] at h
  obtain⟨u,hu,fd,hf,h⟩:=h
  obtain⟨fs,f1,f2⟩:=F9 hf
  have hr:=aV.cH hts hu
  split at h
  ·simp only[aV] at hr
   obtain⟨vs,e,hr⟩:=hr
   obtain⟨r,r1,r2⟩:=wE hr h
   refine⟨r,?_,r2⟩
   simp only[execOp,ho]
   refine val ?_
   simp[Instr.field,run_underlying f1,f2,e,asAgg,r1]
  ·cases h
 case h_14 t x i ho=>
  simp only[Option.bind_eq_some_iff] at h
  obtain⟨u,hu,ui,hui,h⟩:=h
  obtain⟨r,r1,r2⟩:=Fh (aV.cH hts hu) (aV.cH hts hui) h
  exact⟨r,by simp only[execOp,ho]; exact val r1,r2⟩
 case h_15 t x i ho=>
  simp only[Option.bind_eq_some_iff] at h
  obtain⟨u,hu,ui,hui,h⟩:=h
  obtain⟨r,r1,r2⟩:=Kw (aV.cH hts hu) (aV.cH hts hui) h
  exact⟨r,by simp only[execOp,ho]; exact val r1,r2⟩
 case h_16 x i ho=>
  simp only[Option.bind_eq_some_iff] at h
  obtain⟨u,hu,h⟩:=h
  have hr:=aV.cH hts hu
  split at h
  ·simp only[aV] at hr
   obtain⟨vs,e,hr⟩:=hr
   obtain⟨r,r1,r2⟩:=hr.get h
   rw[Array.getElem?_toList] at r1
   exact⟨r,by simp[execOp,ho,Instr.extract,e,r1],r2⟩
  ·cases h
 case h_17 x xt t ok ho=>
  simp only[Option.bind_eq_some_iff] at h
  obtain⟨u,hu,h⟩:=h
  have hr:=aV.cH hts hu
  obtain⟨r,r1,r2⟩:=D4 (xt:=xt) hr h
  exact⟨r,by simp only[execOp,ho]; exact val r1,r2⟩
 case h_18 args ats ho=>
  simp only[Option.bind_eq_some_iff] at h
  obtain⟨vs,hvs,h⟩:=h
  split at h
  ·rename_i k x k' y
   obtain⟨hq,h⟩:=b7 h
   injection h with h
   subst h
   obtain⟨u,l,hl,hu,hn⟩:=(aT.cU hts hvs).cons_inv
   obtain⟨u',l',hl',hu',hn⟩:=hn.cons_inv
   have hn:=hn.hT
   subst hn; subst hl'
   have hargs:args.map a.eval= #[u,u']:=by
    apply Array.ext'
    simpa using hl
   simp only[aV] at hu hu'
   subst hu; subst hu'
   exact⟨.int k (if y<x then y else x),by simp[execOp,ho,resolve,invoke,builtin,hargs,Builtin.min_,Builtin.min2],by simp only[aV]⟩
  ·rename_i x y
   injection h with h
   subst h
   obtain⟨u,l,hl,hu,hn⟩:=(aT.cU hts hvs).cons_inv
   obtain⟨u',l',hl',hu',hn⟩:=hn.cons_inv
   have hn:=hn.hT
   subst hn; subst hl'
   have hargs:args.map a.eval= #[u,u']:=by
    apply Array.ext'
    simpa using hl
   simp only[aV] at hu hu'
   subst hu; subst hu'
   obtain⟨r,r1,r2⟩:=yT (P:=P) (G:=G) (st:=st) (w:=w) (op:=.leq) (x:=x) (y:=y) (v:=.bool (strLt x y || gT x y)) rfl
   simp only[aV] at r2
   subst r2
   refine⟨.string ⟨(cond (strLt x y || gT x y) x y).toArray⟩,?_,by simp only[aV]⟩
   have:(Builtin.min_ ats o.type #[.string ⟨x.toArray⟩,.string ⟨y.toArray⟩]).run P w=.ok (.string ⟨(cond (strLt x y || gT x y) x y).toArray⟩) w:=by
    simp only[Builtin.min_,List.foldlM_cons,List.foldlM_nil,Builtin.min2,Sem.run_bind,r1,Result.andThen_ok,asBool,Sem.run_pure]
    cases(strLt x y || gT x y) <;> rfl
   simp[execOp,ho,resolve,invoke,builtin,hargs,this]
  ·cases h
 case h_19 args ats ho=>
  simp only[Option.bind_eq_some_iff] at h
  obtain⟨vs,hvs,h⟩:=h
  split at h
  ·rename_i k x k' y
   obtain⟨hq,h⟩:=b7 h
   injection h with h
   subst h
   obtain⟨u,l,hl,hu,hn⟩:=(aT.cU hts hvs).cons_inv
   obtain⟨u',l',hl',hu',hn⟩:=hn.cons_inv
   have hn:=hn.hT
   subst hn; subst hl'
   have hargs:args.map a.eval= #[u,u']:=by
    apply Array.ext'
    simpa using hl
   simp only[aV] at hu hu'
   subst hu; subst hu'
   exact⟨.int k (if y>x then y else x),by simp[execOp,ho,resolve,invoke,builtin,hargs,Builtin.max_,Builtin.max2],by simp only[aV]⟩
  ·rename_i x y
   injection h with h
   subst h
   obtain⟨u,l,hl,hu,hn⟩:=(aT.cU hts hvs).cons_inv
   obtain⟨u',l',hl',hu',hn⟩:=hn.cons_inv
   have hn:=hn.hT
   subst hn; subst hl'
   have hargs:args.map a.eval= #[u,u']:=by
    apply Array.ext'
    simpa using hl
   simp only[aV] at hu hu'
   subst hu; subst hu'
   obtain⟨r,r1,r2⟩:=yT (P:=P) (G:=G) (st:=st) (w:=w) (op:=.geq) (x:=x) (y:=y) (v:=.bool (!strLt x y)) rfl
   simp only[aV] at r2
   subst r2
   refine⟨.string ⟨(cond (!strLt x y) x y).toArray⟩,?_,by simp only[aV]⟩
   have:(Builtin.max_ ats o.type #[.string ⟨x.toArray⟩,.string ⟨y.toArray⟩]).run P w=.ok (.string ⟨(cond (!strLt x y) x y).toArray⟩) w:=by
    simp only[Builtin.max_,List.foldlM_cons,List.foldlM_nil,Builtin.max2,Sem.run_bind,r1,Result.andThen_ok,asBool,Sem.run_pure]
    cases(!strLt x y) <;> rfl
   simp[execOp,ho,resolve,invoke,builtin,hargs,this]
  ·cases h
 case h_20 cal args ats n1 n2 ho=>
  have hcal:cal=.builtin .len:=by
   rw[ho] at hk
   unfold lZ at hk
   split at hk <;> first | (cases hk; done) | skip
   all_goals simp_all
  subst hcal
  simp only[Option.bind_eq_some_iff] at h
  obtain⟨vs,hvs,h⟩:=h
  split at h
  ·simp only[Option.bind_eq_some_iff] at h
   obtain⟨t,ht,d,hd,h⟩:=h
   obtain⟨u,l,hl,hu,hn⟩:=(aT.cU hts hvs).cons_inv
   have hn:=hn.hT
   subst hn
   have hargs:args.map a.eval= #[u]:=by
    apply Array.ext'
    simpa using hl
   have run:∀{n:Nat},(Builtin.len_ ats o.type #[u]).run P w=.ok (.int .i64 n) w→(execOp a.eval o).run P w=.ok (.value (.int .i64 n)) w:=fun h=>by
    simp[execOp,ho,resolve,invoke,builtin,hargs,h]
   have len:∀{n:Nat},(match d,u with | .string,.string s=>s.size=n | .slice _,.slice _ m _=>m=n | _,_=>False)→(Builtin.len_ ats o.type #[u]).run P w=.ok (.int .i64 n) w:=fun{n} hn=>by
    unfold Builtin.len_
    rw[ht]
    simp only[List.getElem?_toArray,List.getElem?_cons_zero,Sem.run_bind,run_underlying hd,Result.andThen_ok]
    split at hn <;> first | (cases hn; done) | (subst hn; rfl)
   split at h <;> first | (cases h; done) | skip
   all_goals
    injection h with h
    subst h
    simp only[aV] at hu
    simp only[aV]
   ·subst hu; exact⟨_,run (len (by simp[ByteArray.size])),rfl⟩
   ·obtain⟨s,rfl,_,s2,s3⟩:=hu
    exact⟨_,run (n:=s.length) (len (by simp[ByteArray.size])),s.length,rfl,by omega,by omega,by omega⟩
   ·subst hu; exact⟨_,run (n:=0) (len rfl),rfl⟩
   ·obtain⟨_,_,_,rfl⟩:=hu; exact⟨_,run (n:=0) (len rfl),rfl⟩
   ·obtain⟨_,_,_,_,_,rfl,_⟩:=hu; exact⟨_,run (len rfl),rfl⟩
   ·obtain⟨_,_,_,_,_,rfl,_⟩:=hu; exact⟨_,run (len rfl),rfl⟩
   ·obtain⟨rfl,_⟩:=hu; exact⟨_,run (len rfl),rfl⟩
  ·cases h
 case h_21=>cases h
end
end Go.Ev
end
section
set_option linter.all false
namespace Go.Ev
open Go.RowKit (Below)
section
variable {P:Program}{W0:World}{G:Gh}{st:St}{w:World}
def yZ (W0:World)(G:Gh)(st:St)(w:World)(r:Result Next)(a:AV)(st':St):Prop:=
 ∃ n v w' G',r=.ok n w'∧(n=.value v∨n=.skip∧v=Go.undef)∧Le G st w G' st' w'∧sE G st G' st'∧Inv W0 G' st' w'∧aV G' st' w' a v
theorem AD (I:Inv W0 G st w){b:Nat}:∀{n off:Nat} {l:List AV},tW st.old b off n=some l→dT G st w b off l∧l.length=n
 | 0, off, l, h => by
   simp only[tW,Option.some.injEq] at h
   subst h
   exact⟨by simp only[dT],rfl⟩
 | n + 1, off, l, h => by
   simp only[tW,Option.bind_eq_some_iff,Option.some.injEq] at h
   obtain⟨a,h1,h⟩:=h
   obtain⟨h0,h⟩:=b7 h
   simp only[Option.bind_eq_some_iff,Option.some.injEq] at h
   obtain⟨l',h2,rfl⟩:=h
   obtain⟨k1,k2⟩:=AD I h2
   obtain⟨hb,hq,_⟩:=I.old b off a h1
   obtain⟨v,hv,hr⟩:=hq h0
   refine⟨?_,by simp[k2]⟩
   simp only[dT]
   exact⟨⟨v,by rw[I.below.cell (p:=⟨b,off,none⟩) hb]; exact hv,hr _ _ _⟩,k1⟩
theorem FA (I:Inv W0 G st w){p:AV}{u:Value}{n:Nat}{l:List AV}(hp:aV G st w p u)(h:tA st p n=some l):
 ∃ b off,u=.pointer (some ⟨b,off,none⟩)∧dT G st w b off l∧l.length=n:=by
 unfold tA at h
 split at h
 ·rename_i id off
  split at h
  ·rename_i cs hcs
   obtain⟨h1,rfl⟩:=qX h
   simp only[aV] at hp
   obtain⟨b,k0,n0,hb,rfl⟩:=hp
   have:=(I.nI id b k0 n0 _ _ cs hb hcs).1
   refine⟨b,off,rfl,?_,by simp; omega⟩
   have:=(this.drop off (by omega)).take n
   simpa using this
  ·cases h
 ·obtain⟨h1,rfl⟩:=qX h
  simp only[aV] at hp
  obtain⟨b,off,id,m,n',rfl,h2,h3,h4⟩:=hp
  exact⟨b,off,rfl,by simpa using h4.take n,by simp; omega⟩
 ·simp only[aV] at hp
  subst hp
  obtain⟨h1,h2⟩:=AD I h
  exact⟨_,_,rfl,h1,h2⟩
 ·cases h
theorem Bt (I:Inv W0 G st w){t:TypeId}{p v:AV}{u:Value}(hp:aV G st w p u)(h:loadAt P st t p=some v):∃ r,(Instr.loadAt t u).run P w=.ok r w∧aV G st w v r:=by
 simp only[loadAt,Option.bind_eq_some_iff] at h
 obtain⟨g,hg,n,hn,l,hl,h⟩:=h
 obtain⟨b,off,rfl,h1,h2⟩:=FA I hp hl
 obtain⟨vs,v1,v2,v3⟩:=h1.values
 unfold shaped at h
 split at h
 ·injection h with h
  subst h
  simp only[cond_true] at h2
  have:=run_loadCells_list (P:=P) w ⟨b,off,none⟩ vs (fun j v hj=>by rw[iD]; exact v3 j v hj)
  rw[v2,h2] at this
  exact⟨.agg vs.toArray,by simp[Instr.loadAt,Instr.sureAddr,loadVar,E2 hg,gQ hn,this],by simp only[aV]; exact⟨_,rfl,by simpa using v1⟩⟩
 ·split at h
  ·injection h with h
   subst h
   obtain⟨r,l',rfl,hr,hl'⟩:=v1.cons_inv
   have hc:=v3 0 r (by simp)
   simp only[Nat.add_zero] at hc
   exact⟨r,by simp[Instr.loadAt,Instr.sureAddr,loadVar,E2 hg,hc],hr⟩
  ·cases h
theorem zL (I : Inv W0 G st w) {p : AV} {u : Value} {a_ : List AV} {vs : List Value} {st' : St} (hp : aV G st w p u) (hr : aT G st w a_ vs) (ho : a_.all AV.one = true)
 (h:iH st p a_=some st'):∃ b off w',u=.pointer (some ⟨b,off,none⟩)∧(storeCells ⟨b,off,none⟩ vs).run P w=.ok () w'∧Le G st w G st' w'∧sE G st G st'∧Inv W0 G st' w':=by
 unfold iH at h
 split at h
 ·rename_i id off
  split at h
  ·rename_i t uf cs hcs
   obtain⟨h1,h⟩:=b7 h
   injection h with h
   subst h
   have h1:=Nat.le_of_ble_eq_true h1
   simp only[aV] at hp
   obtain⟨b,k0,n0,hb,rfl⟩:=hp
   obtain⟨k1,k2',k3,k4,k5,k6⟩:=I.nI id b k0 n0 t uf cs hb hcs
   obtain⟨us,u1,u2,u3⟩:=k1.values
   have hlv:=hr.length
   refine⟨b,off,_,rfl,?_,Le.store I hb _,?_,I.store hb hcs h1 hr⟩
   ·have:=run_storeCells_cells (P:=P) b off vs 0 w (fun j hj=>by
     have hlt:off+j<us.length:=by omega
     have:=u3 (off+j) us[off+j] (by simp[hlt])
     simp only[Nat.zero_add] at this
     rw[Nat.add_zero,this]; rfl) (fun j hj=>by
     have:=k6 (off+j) (by omega)
     rwa [Nat.add_zero]) (hr.one ho)
    simpa using this
   ·intro i hi hu
    simp only[St.put,Tr.bP]
    rw[if_neg (by rintro rfl; rw[hu.1] at hb; cases hb)]
    exact⟨rfl,hu⟩
  ·cases h
 ·cases h
theorem IV (I:Inv W0 G st w){t:TypeId}{p x:AV}{u v:Value}{st':St}(hp:aV G st w p u)(hx:aV G st w x v)(h:storeAt P st t p x=some st'):
 ∃ w',(Instr.storeAt t u v).run P w=.ok () w'∧Le G st w G st' w'∧sE G st G st'∧Inv W0 G st' w':=by
 simp only[storeAt,Option.bind_eq_some_iff] at h
 obtain⟨n,hn,h⟩:=h
 obtain⟨hq,h⟩:=b7 h
 simp only[Bool.and_eq_true] at hq
 have q1:=Nat.eq_of_beq_eq_true hq.1
 obtain⟨b,off,w',rfl,h1,h2⟩:=zL (P:=P) I hp hx.cells hq.2 h
 have hl:=hx.cells.length
 simp only[Array.length_toList] at hl
 refine⟨w',?_,h2⟩
 simp[Instr.storeAt,Instr.sureAddr,storeVar,gQ hn,h1,hl,q1]
theorem xP {id i:Nat}{x:Nat×Nat×Nat}(h:G.lM i)(hne:i≠id):(G.born id x).lM i:=⟨by simp only[Gh.born]; rw[if_neg hne]; exact h.1,h.2⟩
theorem AE {id i b m n:Nat}(h:G.lM i)(hne:i≠id):(G.grown b (id,m,n)).lM i:=⟨h.1,fun b' m' n' he=>by
 simp only[Gh.grown] at he
 split at he
 ·injection he with he; injection he with e _; exact hne e.symm
 ·exact h.2 _ _ _ he⟩
def Er (W0:World)(G:Gh)(st:St)(w:World)(r:Result Next)(id:Nat)(a:AV):Prop:=
 ∃ v w' G',r=.ok (.value v) w'∧Le G st w G' st w'∧(∀ i,i≠id→G.lM i→G'.lM i)∧Inv W0 G' st w'∧aV G' st w' a v
theorem tO (I:Inv W0 G st w){id:Nat}{uf:Bool}{cs:List AV}{vs:List Value}{C:Array Value}{t:TypeId}{fr:Nat×Nat}(hid:id<st.next)(hu:G.lM id)
 (ho:st.aS.get id=some (.cells t uf cs)) (huf:uf=true→C.size=cs.length∧fr.2≤fr.1) (hr:aT G st w cs vs) (hC:∀(j:Nat) (v:Value),vs[j]? =some v→C[j]? =some v) (hl:cs.length≤C.size) (hfr:fr.2≤fr.1∨C.size≤fr.1)
 {r:Result Next} {v:Value} {a:AV} (h:r=.ok (.value v) (w.alloc (.cells C t fr))) (ha:aV (G.born id (w.heap.size,cs.length,C.size)) st (w.alloc (.cells C t fr)) a v):Er W0 G st w r id a:=
 ⟨v,_,_,h,Le.born hu I _,fun _ hne hi=>xP hi hne,I.born hid hu ho huf hr hC hl hfr,ha⟩
theorem JP {id:Nat}{r:Result Next}{a:AV}(h:Er W0 G st w.drew r id a):Er W0 G st w r id a:=by
 obtain⟨v,w',G',h1,h2,h3⟩:=h
 exact⟨v,w',G',h1,Le.drew.trans h2,h3⟩
theorem rD (id:Nat)(x:Nat×Nat×Nat):(G.born id x).β id=some x:=by simp[Gh.born]
theorem Df (I : Inv W0 G st w) {cQ : Bool} {id len sz c : Nat} {cap : Option Nat} {cs : List AV} {vs : List Value} {C : Array Value} {t : TypeId} (hid : id < st.next) (hu : G.lM id)
 (ho:st.aS.get id=some (eS cQ t len sz cap cs).2) (hr:aT G st w cs vs) (hC:∀(j:Nat) (v:Value),vs[j]? =some v→C[j]? =some v) (hl:cs.length=len * sz) (hsz:0<sz)
 (hcl:len≤c) (hcs:c * sz=C.size) (hcap:∀ k,cap=some k→c=k) {r:Result Next} (h:r=.ok (.value (.slice (some ⟨w.heap.size,0,none⟩) len c)) (w.alloc (.cells C t))):
 Er W0 G st w r id ((eS cQ t len sz cap cs).1 id):=by
 have hlc:cs.length≤C.size:=by
  have:=Nat.mul_le_mul_right sz hcl
  omega
 cases cQ with
 | true =>
   refine tO I hid hu ho (fun e=>⟨by
    cases cap with
    | none=>cases e
    | some c' =>
      have h1:=hcap c' rfl
      have h2:=Nat.eq_of_beq_eq_true e
      subst h1; subst h2
      omega,Nat.le_refl _⟩) hr hC hlc (.inl (by simp)) h ?_
   simp only[eS,aV]
   exact⟨_,_,_,c,rD _ _,rfl,hcl,hcap,fun _=>⟨by omega,by omega⟩,hsz⟩
 | false =>
   simp only[eS] at ho ⊢
   refine⟨_,_,G.grown w.heap.size (id,cs.length,C.size),h,Le.AA I _ _,fun _ hne hi=>AE hi hne,I.AA hid hu.1 ho hlc,?_⟩
   simp only[aV]
   refine⟨w.heap.size,0,c,cs.length,C.size,rfl,by simp[Gh.grown],by simp,?_,hl,hsz,hcl,hcap,cs.length,ho,Nat.le_refl _,Nat.le_refl _,fun _ _=>⟨by simp,by simp; omega⟩⟩
   refine dT.n6 (aT.mono (Le.AA I _ _) _ _ hr) fun j v hv=>?_
   rw[Nat.zero_add,Co]
   exact hC j v hv
theorem aT.HD:∀{a_:List AV} {vs:List Value},a_.length=vs.length→(∀(i:Nat) a,a_[i]? =some a→ ∃ v,vs[i]? =some v∧aV G st w a v)→aT G st w a_ vs
 | [], vs, hl, _ => by
   have:vs=[]:=List.eq_nil_of_length_eq_zero (by simpa using hl.symm)
   rw[this]; exact aT.nil
 | a :: a_,[],hl,_=>by simp at hl
 | a :: a_, v :: vs, hl, h => by
   obtain⟨v',h1,h2⟩:=h 0 a (by simp)
   simp at h1
   subst h1
   exact aT.cons h2 (aT.HD (by simpa using hl) fun i b hb=>by
    obtain⟨u,h1,h2⟩:=h (i+1) b (by simpa using hb)
    exact⟨u,by simpa using h1,h2⟩)
theorem tI (z:List AV):∀ n,(cW z n).length=n * z.length
 | 0=>by simp[cW]
 | n+1=>by simp[cW,tI z n,Nat.add_mul]; omega
theorem EO (z:List AV):∀(n i:Nat),i<n * z.length→(cW z n)[i]? =z[i % z.length]?
 | 0,i,h=>by simp at h
 | n + 1, i, h => by
   simp only[cW]
   by_cases hi:i<z.length
   ·rw[List.getElem?_append_left hi,Nat.mod_eq_of_lt hi]
   ·rw[List.getElem?_append_right (by omega),EO z n (i - z.length) (by rw[Nat.add_mul,Nat.one_mul] at h; omega),Nat.mod_eq_sub_mod (a:=i) (by omega)]
theorem Be {z:List AV}{zv:Array Value}(hz:aT G st w z zv.toList)(n:Nat):aT G st w (cW z n) (madeCells zv (n * zv.size)).toList:=by
 have hl:=hz.length
 simp only[Array.length_toList] at hl
 refine aT.HD (by rw[tI]; simp[hl,size_madeCells]) fun i a ha=>?_
 have hi:i<n * z.length:=by
  have:=(List.getElem?_eq_some_iff.1 ha).1
  rwa [tI] at this
 rw[EO z n i hi] at ha
 obtain⟨v,h1,h2⟩:=hz.get ha
 refine⟨v,?_,h2⟩
 rw[Array.getElem?_toList] at h1 ⊢
 rw[← hl] at h1 hi
 have:(madeCells zv (n * zv.size))[i]? =some zv[i % zv.size]! :=by
  simp[madeCells,hi]
 rw[this]
 have hlt:i % zv.size<zv.size:=by
  have:=(Array.getElem?_eq_some_iff.1 h1).1
  exact this
 rw[Array.getElem?_eq_getElem hlt] at h1
 injection h1 with h1
 rw[← h1]
 simp[hlt]
theorem Es {t e:TypeId}{n sz:Nat}{z:Value}{ps:Array (Nat×Value)}{c:Array Value}(hd:P.underlying t=some (.slice e))(hsz:size? P e=some sz)(hz:(zeroValue e).run P w=.ok z w)
 (hb:n * sz≤16777216) (hf:Instr.fill (fun i=>some (i * sz,sz)) (madeCells z.cells (n * sz)) ps.toList=some c):
 (Instr.buildSlice t n ps).run P w=.ok (.slice (some ⟨w.heap.size,0,none⟩) n n) (w.alloc (.cells c e)):=by
 have h1:¬ n * sz>2 ^ 24:=by omega
 by_cases h0:n * sz=0
 ·have e1:madeCells z.cells (n * sz)= #[]:=by rw[h0]; simp[madeCells]
  rw[e1] at hf
  have e2:((Array.range (n * sz)).map fun x=>(#[]:Array Value)[x % (#[]:Array Value).size]!)= #[]:=by rw[h0]; simp
  unfold Instr.buildSlice
  simp only[Sem.run_bind,run_underlying hd,Result.andThen_ok,gQ hsz,h0,if_true,Array.range_zero',Array.map_empty,hf]
  simp[newRow]
 ·unfold Instr.buildSlice
  simp only[Sem.run_bind,run_underlying hd,Result.andThen_ok,gQ hsz,h1,if_false,h0,Sem.run_pure,hz]
  simp only[madeCells] at hf
  simp only[hf]
  simp[newRow]
theorem EW (I : Inv W0 G st w) {cQ : Bool} {ts : List AV} {a : Act} {o : Oper} {f : Nat → AV} {x : gS} {id : Nat} (hts : aT G st w ts a.tmps.toList) (hk : lZ P o.op = .mk)
 (h:Bl P cQ ts o.op=some (f,x)) (hid:id<st.next) (hu:G.lM id) (ho:st.aS.get id=some x):Er W0 G st w ((execOp a.eval o).run P w) id (f id):=by
 have val:∀{s:Sem Value} {r:Value} {w':World},s.run P w=.ok r w'→((do pure (.value (← s)):Sem Next)).run P w=.ok (.value r) w':=fun h=>by simp[h]
 unfold Bl at h
 split at h
 case h_1 t hop=>
  simp only[Option.bind_eq_some_iff] at h
  obtain⟨z,hz,h⟩:=h
  obtain⟨hq,h⟩:=b7 h
  injection h with h; injection h with h1 h2; subst h1; subst h2
  obtain⟨zv,z1,z2,_⟩:=rT (G:=G) (st:=st) hz w
  have hzc:=z2.cells
  refine tO (t:=t) (fr:=(0,0)) I hid hu ho (fun _=>⟨by have:=hzc.length; simp at this; omega,Nat.le_refl _⟩) hzc (fun j v hj=>by simpa using hj) (by have:=hzc.length; simp at this; omega) (.inl (by simp)) (v:=.pointer (some ⟨w.heap.size,0,none⟩)) ?_ ?_
  ·simp only[execOp,hop]
   refine val ?_
   simp[Instr.alloc,z1,newVar,newRow]
  ·simp only[aV]
   exact⟨_,_,_,rD _ _,rfl⟩
 case h_2 t y hop=>
  simp only[Option.bind_eq_some_iff] at h
  obtain⟨v,hv,h⟩:=h
  obtain⟨hq,h⟩:=b7 h
  injection h with h; injection h with h1 h2; subst h1; subst h2
  have hzc:=(aV.cH hts hv).cells
  refine tO (t:=t) (fr:=(0,0)) I hid hu ho (fun _=>⟨by have:=hzc.length; simp at this; omega,Nat.le_refl _⟩) hzc (fun j v hj=>by simpa using hj) (by have:=hzc.length; simp at this; omega) (.inl (by simp)) (v:=.pointer (some ⟨w.heap.size,0,none⟩)) ?_ ?_
  ·simp only[execOp,hop]
   refine val ?_
   simp[Instr.box,newVar,newRow]
  ·simp only[aV]
   exact⟨_,_,_,rD _ _,rfl⟩
 case h_3 t n ps hop=>
  simp only[Option.bind_eq_some_iff] at h
  obtain⟨l,hl,h⟩:=h
  obtain⟨q1,q2⟩:=Cw hts hl
  simp only[aY,Option.bind_eq_some_iff] at h
  obtain⟨d,hd,h⟩:=h
  split at h
  ·rename_i e
   simp only[Option.bind_eq_some_iff] at h
   obtain⟨sz,hsz,z,hz,h⟩:=h
   have h0:=fK h; clear h
   obtain⟨hq,h⟩:=h0
   simp only[Bool.not_eq_false',Bool.and_eq_true,Bool.not_eq_true'] at hq
   simp only[Option.bind_eq_some_iff] at h
   obtain⟨cs,hf,h⟩:=h
   obtain⟨hone,h⟩:=b7 h
   obtain⟨zv,z1,z2,_⟩:=rT (G:=G) (st:=st) hz w
   have hb:=Nat.le_of_ble_eq_true hq.1.1
   have hzl:=Nat.eq_of_beq_eq_true hq.1.2
   have hs0:0<sz:=by
    rcases Nat.eq_zero_or_pos sz with rfl | h
    ·simp at hq
    ·exact h
   have hzc:=z2.cells.length
   simp only[Array.length_toList] at hzc
   have hrep:=Be z2.cells n
   rw[show zv.cells.size=sz by omega] at hrep
   obtain⟨c,c1,c2⟩:=Cc _ hrep q1 q2 hf
   have hcl:=c2.length
   simp only[Array.length_toList] at hcl
   have hfl:cs.length=n * sz:=by
    have:∀(ps:List (Nat×AV)) (cells:List AV),pY (fun i=>some (i * sz,sz)) cells ps=some cs→cs.length=cells.length:=by
     intro ps
     induction ps with
     | nil=>intro cells h; simp only[pY] at h; injection h with h; rw[h]
     | cons p ps ih =>
       intro cells h
       obtain⟨i,v⟩:=p
       simp only[pY,Option.bind_eq_some_iff,Option.some.injEq] at h
       obtain⟨⟨o',s'⟩,e,h⟩:=h
       injection e with e1 e2
       obtain⟨hg,h⟩:=b7 h
       simp only[Bool.and_eq_true] at hg
       have g1:=Nat.eq_of_beq_eq_true hg.1
       have g2:=Nat.le_of_ble_eq_true hg.2
       rw[ih _ h,AN (by omega)]
    rw[this _ _ hf,tI,hzl]
   injection h with h
   have h1:f=(eS cQ e n sz (some n) cs).1:=by rw[h]
   have h2:x=(eS cQ e n sz (some n) cs).2:=by rw[h]
   subst h1; subst h2
   refine Df (C:=c) (t:=e) (c:=n) I hid hu ho c2 (fun j v hj=>by simpa using hj) hfl hs0 (Nat.le_refl _) (by omega) (fun k hk=>by injection hk) ?_
   simp only[execOp,hop]
   refine val ?_
   refine Es hd hsz z1 hb ?_
   simpa using c1
  ·cases h
 case h_4 t l c hop=>
  simp only[Option.bind_eq_some_iff] at h
  obtain⟨lv,hl,cv,hc,h⟩:=h
  have hlr:=aV.cH hts hl
  have hcr:=aV.cH hts hc
  simp only[pB,Option.bind_eq_some_iff] at h
  obtain⟨d,hd,h⟩:=h
  split at h
  ·rename_i e
   simp only[Option.bind_eq_some_iff] at h
   obtain⟨sz,hsz,bs,hbs,z,hz,li,hli,ci,hci,h⟩:=h
   obtain⟨kl,el⟩:=BH hli hlr
   obtain⟨kc,ec⟩:=BH hci hcr
   split at h
   ·rename_i ln cn
    obtain⟨hq,h⟩:=b7 h
    injection h with h; injection h with h1 h2; subst h1; subst h2
    simp only[Bool.and_eq_true,Bool.not_eq_true'] at hq
    have q1:=Nat.le_of_ble_eq_true hq.1.1.1.1.1
    have q2:=Nat.le_of_ble_eq_true hq.1.1.1.1.2
    have q3:=Nat.le_of_ble_eq_true hq.1.1.1.2
    have q4:=Nat.eq_of_beq_eq_true hq.1.1.2
    obtain⟨zv,z1,z2,i,hi,hiz⟩:=rT (G:=G) (st:=st) hz w
    obtain⟨i',hi',his⟩:=vU hsz
    rw[hi] at hi'; injection hi' with hi'; subst hi'
    have hbs':i.bytes=bs:=by
     simp only[bytes?,hi,Option.bind_some,Option.some.injEq] at hbs
     exact hbs
    have hzc:=z2.cells.length
    simp only[Array.length_toList] at hzc
    have hrep:=Be z2.cells cn
    have hrl:=hrep.length
    simp only[Array.length_toList] at hrl
    have hm:iL=1073741824:=rfl
    have hbig:(i.bytes:Int) * (cn:Int)≤281474976710656:=by
     have:i.bytes * cn≤4096 * 1073741824:=Nat.mul_le_mul (by omega) (by omega)
     have h2:((i.bytes * cn:Nat):Int)≤281474976710656:=by omega
     rwa [Int.natCast_mul] at h2
    refine tO (t:=e) (fr:=(0,0)) (C:=madeCells zv.cells (cn * zv.cells.size)) I hid hu ho (fun _=>⟨by rw[size_madeCells] at hrl ⊢; omega,Nat.le_refl _⟩) hrep (fun j v hj=>by simpa using hj) (by rw[size_madeCells] at hrl ⊢; omega) (.inl (by simp)) (v:=.slice (some ⟨w.heap.size,0,none⟩) ln cn) ?_ ?_
    ·simp only[execOp,hop]
     refine val ?_
     rw[el,ec]
     have:=run_make (P:=P) w t e i zv hd hi hiz kl kc (ln:Int) (cn:Int) (by omega) (by omega) hbig (by omega)
     simp only[Int.toNat_natCast,his] at this
     rw[show zv.cells.size=sz by omega]
     exact this
    ·simp only[aV]
     exact⟨_,_,_,cn,rD _ _,rfl,q1,(fun k hk=>by injection hk),(fun e=>by cases e),(by
            rcases Nat.eq_zero_or_pos sz with h | h
            ·have:=hq.1.2; rw[h] at this; simp at this
            ·exact h)⟩
   ·cases h
  ·cases h
 case h_5 t r hop=>
  have mk:∀(s:Sem Value),s.run P w=.ok (.map (some w.heap.size)) (w.alloc (.map #[] 0))→(execOp a.eval o).run P w=(do pure (.value (← s)):Sem Next).run P w→x=.map [] 0→f id=.map id→Er W0 G st w ((execOp a.eval o).run P w) id (f id):=by
   rintro s h1 h2 rfl h4
   rw[h2,val h1,h4]
   have hO:oX G st w (.map [] 0) (.map #[] 0):=⟨#[],rfl,rfl⟩
   exact⟨_,_,_,rfl,Le.born hu I _,fun _ hne hi=>xP hi hne,I.KJ hid hu ho hO,by simp only[aV]; exact⟨_,_,_,rD _ _,rfl⟩⟩
  split at h
  ·injection h with h; injection h with h1 h2
   refine mk (Instr.makeMap t none) ?_ (by simp only[execOp,hop,Option.map_none]) h2.symm (by rw[← h1])
   simp[Instr.makeMap]
  ·rename_i y
   simp only[Option.bind_eq_some_iff] at h
   obtain⟨v,hv,n,hn,d,hd,h⟩:=h
   obtain⟨k,e⟩:=BH hn (aV.cH hts hv)
   split at h
   ·injection h with h; injection h with h1 h2
    refine mk (Instr.makeMap t (some (a.eval y))) ?_ (by simp only[execOp,hop,Option.map_some]) h2.symm (by rw[← h1])
    rw[e]
    simp[Instr.makeMap,run_underlying hd,asInt,asIntOf,Result.andThen]
   ·cases h
 case h_6 s d y hop=>
  simp only[Option.bind_eq_some_iff] at h
  obtain⟨v,hv,ss,hs,dd,hd,h⟩:=h
  have hr:=aV.cH hts hv
  split at h
  ·rename_i e s'
   simp only[Option.bind_eq_some_iff] at h
   obtain⟨ed,he,h⟩:=h
   split at h
   ·obtain⟨hq,h⟩:=b7 h
    injection h with h; injection h with h1 h2; subst h1; subst h2
    simp only[aV] at hr
    have hrun:=run_bytes_of_string (P:=P) w s d e ⟨s'.toArray⟩ hs hd he
    have hsz:(⟨s'.toArray⟩:ByteArray).size=s'.length:=by simp[ByteArray.size]
    rw[hsz] at hrun
    refine JP ?_
    refine tO (t:=e) (vs:=s'.map fun b=>.int .u8 (b.toNat:Int)) (C:=bytesRow ⟨s'.toArray⟩ (grownCap w s'.length 0 e)) (fr:=((bytesRow ⟨s'.toArray⟩ (grownCap w s'.length 0 e)).size,(bytesRow ⟨s'.toArray⟩ (grownCap w s'.length 0 e)).size+1))
     I.drew hid hu ho (fun e=>by cases e) ?_ ?_ ?_ (.inr (Nat.le_refl _)) (v:=.slice (some ⟨w.heap.size,0,none⟩) s'.length (grownCap w s'.length 0 e)) ?_ ?_
    ·refine aT.HD (by simp) fun i a ha=>?_
     simp only[List.getElem?_map,Option.map_eq_some_iff] at ha ⊢
     obtain⟨b,hb,rfl⟩:=ha
     exact⟨_,⟨b,hb,rfl⟩,by simp only[aV]⟩
    ·intro j v hj
     simp only[List.getElem?_map,Option.map_eq_some_iff] at hj
     obtain⟨b,hb,rfl⟩:=hj
     have hlt:=(List.getElem?_eq_some_iff.1 hb)
     obtain⟨h1,h2⟩:=hlt
     rw[bytesRow_at _ _ _ (by simpa using h1)]
     simp[h2]
    ·simp[bytesRow]
    ·simp only[execOp,hop]
     refine val ?_
     rw[hr]
     exact hrun
    ·simp only[aV]
     exact⟨_,_,_,_,rD _ _,rfl,grownCap_ge _ _ _ _,(fun k hk=>by cases hk),(fun _=>⟨by have:=grownCap_ge w s'.length 0 e; simp; omega,by simp[bytesRow]; try omega⟩),by omega⟩
   ·cases h
  ·cases h
 case h_7=>cases h
end
end Go.Ev
end
section
set_option linter.all false
namespace Go.Ev
open Go.RowKit (Below)
section
variable {P:Program}{W0:World}{G:Gh}{st:St}{w:World}
theorem yZ.value {r:Result Next}{a:AV}{v:Value}(h:r=.ok (.value v) w)(I:Inv W0 G st w)(ha:aV G st w a v):yZ W0 G st w r a st:=
 ⟨_,v,w,G,h,.inl rfl,Le.refl _ _ _,sE.refl _ _,I,ha⟩
theorem yZ.drew {r:Result Next}{a:AV}{st':St}(h:yZ W0 G st w.drew r a st'):yZ W0 G st w r a st':=by
 obtain⟨n,v,w',G',h1,h2,h3,h4⟩:=h
 exact⟨n,v,w',G',h1,h2,Le.drew.trans h3,h4⟩
theorem yZ.Ht (I:Inv W0 G st w){r:Result Next}{x:gS}{a:AV}(h:Er W0 G (st.push x) w r st.next a):yZ W0 G st w r a (st.push x):=by
 obtain⟨v,w',G',h1,h2,h3,h4,h5⟩:=h
 exact⟨_,v,w',G',h1,.inl rfl,(Le.push I x).trans h2,(fun i hi hu=>⟨(sE.push (G:=G) x i hi hu).1,h3 i (by omega) hu⟩),h4,h5⟩
theorem wH (I:Inv W0 G st w){n sz:Nat}{v:AV}{u:Value}{l:List AV}(hv:aV G st w v u)(h:eD st n v sz=some l)(hn:∃ m,lenOf v=some m∧n≤m):
 (u=.slice none 0 0∧n=0∧l=[])∨ ∃ b off c m vs,u=.slice (some ⟨b,off,none⟩) m c∧lenOf v=some m∧n≤m∧aT G st w l vs∧l.length=n * sz∧ ∀(j:Nat) x,vs[j]? =some x→w.cell? ((⟨b,off,none⟩:Addr).add j)=some x:=by
 unfold eD at h
 split at h
 ·obtain⟨h1,h⟩:=b7 h
  injection h with h
  subst h
  simp only[aV] at hv
  exact .inl ⟨hv,Nat.eq_of_beq_eq_true h1,rfl⟩
 ·obtain⟨h1,h⟩:=b7 h
  injection h with h
  subst h
  have:=Nat.eq_of_beq_eq_true h1
  subst this
  simp only[aV] at hv
  obtain⟨b,off,c,rfl⟩:=hv
  exact .inr ⟨b,off,c,0,[],rfl,rfl,Nat.le_refl _,aT.nil,by simp,by simp⟩
 ·have h0:=b7 h
  clear h
  obtain⟨h1,h⟩:=h0
  obtain⟨h2,rfl⟩:=qX h
  obtain⟨m,hm,hnm⟩:=hn
  simp only[lenOf,Option.some.injEq] at hm
  subst hm
  simp only[aV] at hv
  obtain⟨b,off,c,m0,n0,rfl,x2,x3,x4,x5,_⟩:=hv
  obtain⟨vs,v1,v2,v3⟩:=dT.values (x4.take (n * sz))
  refine .inr ⟨b,off,c,_,vs,rfl,rfl,hnm,by simpa using v1,by simp; omega,fun j x hx=>by rw[iD]; exact v3 j x hx⟩
 ·rename_i id off len sz' cap
  split at h
  ·rename_i t uf cs hcs
   have h0:=b7 h
   clear h
   obtain⟨h1,h⟩:=h0
   obtain⟨h2,rfl⟩:=qX h
   obtain⟨m,hm,hnm⟩:=hn
   simp only[lenOf,Option.some.injEq] at hm
   subst hm
   simp only[aV] at hv
   obtain⟨b,k0,n0,c,x1,rfl,_⟩:=hv
   have:=((I.nI id b k0 n0 _ _ cs x1 hcs).1.drop off (by omega)).take (n * sz)
   rw[Nat.zero_add] at this
   obtain⟨vs,v1,v2,v3⟩:=this.values
   exact .inr ⟨b,off,c,_,vs,rfl,rfl,hnm,v1,by simp; omega,fun j x hx=>by rw[iD]; exact v3 j x hx⟩
  ·cases h
 ·obtain⟨h1,h⟩:=b7 h
  simp only[aV] at hv
  obtain⟨rfl,_⟩:=hv
  obtain⟨r1,r2⟩:=AD I h
  obtain⟨vs,v1,v2,v3⟩:=r1.values
  exact .inr ⟨_,_,_,_,vs,rfl,rfl,Nat.le_of_ble_eq_true h1,v1,r2,fun j x hx=>by rw[iD]; exact v3 j x hx⟩
 ·cases h
theorem Cb (I : Inv W0 G st w) {t t' e : TypeId} {n sz : Nat} {x : AV} {ux : Value} {new : List AV} (hd : P.underlying t = some (.slice e)) (hx : aV G st w x ux) (h : qH P st t t' n sz x = some new) (hn : ∃ m, A4 x = some m ∧ n ≤ m) (hone : new.all AV.one = true) :
 ∃ nvs m, ((∃ e', P.underlying t' = some (.slice e')) ∨ P.underlying t' = some .string) ∧ A4 x = some m ∧ (∀ w' : World, (Builtin.lenOf ux).run P w' = .ok m w') ∧ (Builtin.firstCells sz n ux).run P w = .ok nvs.toArray w ∧
  (Builtin.firstCells sz n ux).run P w.drew=.ok nvs.toArray w.drew∧nvs.length=n * sz∧(∀ u ∈ nvs,u.oneCell'=true)∧aT G st w new nvs∧new.length=n * sz:=by
 unfold qH at h
 split at h
 ·rename_i s
  simp only[Option.bind_eq_some_iff] at h
  obtain⟨d',hd',h⟩:=h
  split at h
  ·have h0:=b7 h
   clear h
   obtain⟨hq,h⟩:=h0
   injection h with h
   subst h
   simp only[Bool.and_eq_true] at hq
   have e1:=Nat.eq_of_beq_eq_true hq.1
   have e2:=Nat.le_of_ble_eq_true hq.2
   subst e1
   simp only[aV] at hx
   subst hx
   have hfc:∀ w':World,(Builtin.firstCells 1 n (.string ⟨s.toArray⟩)).run P w'=.ok ((s.take n).map fun b=>Value.int .u8 b.toNat).toArray w':=fun w'=>by
    simp only[Builtin.firstCells,Sem.run_pure]
    congr 1
    apply Array.ext'
    simp[ByteArray.data_extract]
   refine⟨(s.take n).map fun b=>Value.int .u8 b.toNat,s.length,.inr hd',rfl,fun w'=>rfl,hfc w,hfc w.drew,by simp; omega,fun u hu=>?_,aT.HD (by simp) fun i a ha=>?_,by simp; omega⟩
   ·obtain⟨_,_,rfl⟩:=List.mem_map.1 hu
    rfl
   ·simp only[List.getElem?_map,Option.map_eq_some_iff] at ha ⊢
    obtain⟨b,hb,rfl⟩:=ha
    exact⟨_,⟨b,hb,rfl⟩,by simp only[aV]⟩
  ·cases h
 ·rename_i hns
  have h0:=b7 h
  clear h
  obtain⟨hq,h⟩:=h0
  have:=Nat.eq_of_beq_eq_true hq
  subst this
  have hal:A4 x=lenOf x:=by cases x <;> first | rfl | exact absurd rfl (hns _)
  rw[hal] at hn ⊢
  rcases wH I hx h hn with⟨rfl,rfl,rfl⟩ | ⟨b,off,c,m,vs,rfl,h1,h2,h3,h4,h5⟩
  ·obtain⟨m,hm,_⟩:=hn
   have hm0:m=0:=by
    cases x <;> simp only[lenOf,Option.some.injEq] at hm <;> first | (cases hm; done) | skip
    all_goals simp only[aV] at hx
    all_goals first
     | exact hm.symm
     | (have e:=hx.1; cases e; done)
     | (obtain⟨_,_,_,hx⟩:=hx; cases hx; done)
     | (obtain⟨_,_,_,_,_,hx,_⟩:=hx; cases hx; done)
   subst hm0
   exact⟨[],0,.inl ⟨e,hd⟩,hm,fun _=>rfl,run_firstCells_none w sz 0 0 0,run_firstCells_none w.drew sz 0 0 0,by simp,by simp,aT.nil,by simp⟩
  ·have hvl:=h3.length
   have hfc:∀ w':World,(∀(j:Nat) x,vs[j]? =some x→w'.cell? ((⟨b,off,none⟩:Addr).add j)=some x)→(Builtin.firstCells sz n (.slice (some ⟨b,off,none⟩) m c)).run P w'=.ok vs.toArray w':=fun w' h=>by
    have:=run_loadCells_list (P:=P) w' ⟨b,off,none⟩ vs h
    rw[hvl,h4] at this
    simpa[Builtin.firstCells] using this
   exact⟨vs,m,.inl ⟨e,hd⟩,h1,fun _=>rfl,hfc w h5,hfc w.drew (by simpa using h5),by omega,h3.one hone,h3,h4⟩
theorem Le.Ib {id h h':Nat}(ho:st.aS.get id=some (.nE h))(hh:h≤h'):Le G st w G (st.put id (.nE h')) w where
 β i b hb:=hb
 ext b i m n he:=⟨m,Nat.le_refl _,he⟩
 cell b i m n j _ _:=rfl
 nE i t ht _:=by
  simp only[St.put,Tr.bP]
  split
  ·subst_vars
   rw[ho] at ht; injection ht with ht; injection ht with ht; subst ht
   exact⟨h',hh,rfl,fun _ _ _ _ k=>k⟩
  ·exact⟨t,Nat.le_refl _,ht,fun _ _ _ _ k=>k⟩
 next:=Nat.le_refl _
theorem Inv.Ib (I:Inv W0 G st w){id h h':Nat}(ho:st.aS.get id=some (.nE h))(hh:h≤h')(hid:id<st.next):Inv W0 G (st.put id (.nE h')) w where
 below:=I.below
 blt:=I.blt
 AW i j b k n k' n' h1 h2 d1 d2:=by
  have live:∀ i,(st.put id (.nE h')).aS.get i≠some .dead→st.aS.get i≠some .dead:=by
   intro i hi
   simp only[St.put,Tr.bP] at hi
   split at hi
   ·subst_vars; rw[ho]; intro e; cases e
   ·exact hi
  exact I.AW i j b k n k' n' h1 h2 (live i d1) (live j d2)
 vJ:=I.vJ
 Ac b i m n he:=by
  obtain⟨h1,h2,h3,h4,h5,t,h6⟩:=I.Ac b i m n he
  refine⟨h1,h2,h3,h4,h5,?_⟩
  simp only[St.put,Tr.bP]
  split
  ·exact⟨_,rfl⟩
  ·exact⟨t,h6⟩
 qK:=I.qK
 nI i b k n t u cs hb hcs:=by
  simp only[St.put,Tr.bP] at hcs
  split at hcs
  ·cases hcs
  ·obtain⟨k1,k2⟩:=I.nI i b k n t u cs hb hcs
   exact⟨k1.old (Le.Ib ho hh) fun _ _=>rfl,k2⟩
 pL i b k n a hb ha hv:=by
  simp only[St.put,Tr.bP] at ha
  split at ha
  ·injection ha with ha; subst ha; cases hv
  ·obtain⟨o,j1,j2⟩:=I.pL i b k n a hb ha hv
   exact⟨o,j1,j2.mono (Le.Ib ho hh)⟩
 old:=I.old
 fresh i hi:=by
  simp only[St.put] at hi ⊢
  rw[Tr.bP,if_neg (by omega)]
  exact I.fresh i hi
theorem sE.put {id:Nat}{o:gS}(h:¬ G.lM id):sE G st G (st.put id o):=fun i _ hu=>⟨by
 simp only[St.put,Tr.bP]
 rw[if_neg (by rintro rfl; exact h hu)],hu⟩
theorem Gk {need old bytes:Nat}(h:old<need)(hn:need≤2147483648)(hb:bytes≤4096):Builtin.nextslicecap need old * bytes≤281474976710656:=by
 refine growslice_fits h ?_
 have:need * bytes≤2147483648 * 4096:=Nat.mul_le_mul hn hb
 omega
theorem Jq {ovs nvs:List Value}{Z:Array Value}{j:Nat}{v:Value}(h:(ovs ++ nvs)[j]? =some v):(ovs.toArray ++ nvs.toArray ++ Z)[j]? =some v:=by
 have hlt:=(List.getElem?_eq_some_iff.1 h).1
 have e:ovs.toArray ++ nvs.toArray=(ovs ++ nvs).toArray:=by simp
 rw[e,Array.getElem?_append_left (by simpa using hlt)]
 simpa using h
theorem JQ (old new:List Value)(Z:Array Value):((old ++ new).toArray ++ Z)=old.toArray ++ new.toArray ++ Z:=by simp
theorem HH (I : Inv W0 G st w) {cQ : Bool} {ats : Array TypeId} {ty : TypeId} {s x a : AV} {us ux : Value} {st' : St} (hs : aV G st w s us) (hx : aV G st w x ux)
 (h:cX P cQ st ats s x=some (a,st')):
 ∃ v w' G',(Builtin.append_ ats ty #[us,ux]).run P w=.ok v w'∧Le G st w G' st' w'∧sE G st G' st'∧Inv W0 G' st' w'∧aV G' st' w' a v:=by
 unfold cX at h
 split at h
 rotate_left
 ·cases h
 rename_i t t' hats
 have hats:ats= #[t,t']:=by apply Array.ext'; simpa using hats
 subst hats
 simp only[Option.bind_eq_some_iff] at h
 obtain⟨d,hd,h⟩:=h
 split at h
 rotate_left
 ·cases h
 rename_i e
 simp only[Option.bind_eq_some_iff] at h
 obtain⟨sz,hsz,bs,hbs,z,hz,n,hn,new,hnew,h⟩:=h
 have h0:=fK h; clear h
 obtain⟨hq,h⟩:=h0
 simp only[Bool.not_eq_false',Bool.and_eq_true,Bool.not_eq_true'] at hq
 obtain⟨⟨⟨⟨q1,q2⟩,q3⟩,q4⟩,q5⟩:=hq
 have q2:=Nat.le_of_ble_eq_true q2
 have q3:=Nat.le_of_ble_eq_true q3
 have q5:=Nat.eq_of_beq_eq_true q5
 have hs0:0<sz:=by
  rcases Nat.eq_zero_or_pos sz with rfl | h
  ·simp at q4
  ·exact h
 have hmost:iL=1073741824:=rfl
 obtain⟨zv,z1,z2,i,hi,hiz⟩:=rT (G:=G) (st:=st) hz w
 have his:i.size=sz:=by obtain⟨i',h1,h2⟩:=vU hsz; rw[hi] at h1; injection h1 with h1; subst h1; exact h2
 have hib:i.bytes=bs:=by simpa[bytes?,hi] using hbs
 have hzs:zv.cells.size=sz:=by have:=z2.cells.length; simp only[Array.length_toList] at this; omega
 obtain⟨vs,m',hkind,hm',hlen',hfc,hfcD,hvl,hvone,k1,k2⟩:=Cb (P:=P) I hd hx hnew ⟨n,hn,Nat.le_refl _⟩ q1
 have hmn:m'=n:=by rw[hn] at hm'; injection hm' with hm'; exact hm'.symm
 subst hmn
 have hsrc:Src P i.size t' ux m' vs w:=⟨hkind,hlen',by rw[his]; exact hfc,by rw[his]; exact hfcD,by rw[his]; exact hvl,hvone⟩
 have zero:∀(base:Option Addr) (len c:Nat),len≤c→m'=0→(Builtin.append_ #[t,t'] ty #[.slice base len c,ux]).run P w=.ok (.slice base len c) w:=by
  intro base len c hle h0
  subst h0
  have:vs=[]:=List.eq_nil_of_length_eq_zero (by rw[hvl]; simp)
  subst this
  exact run_append_nothing w t t' ty e i hd hi base len c hle ux hsrc
 have grow:∀(base:Option Addr) (len c:Nat) (ovs:List Value),(Builtin.firstCells sz len (.slice base len c)).run P w.drew=.ok ovs.toArray w.drew→len≤iL→c<len+m'→(Builtin.append_ #[t,t'] ty #[.slice base len c,ux]).run P w =
  .ok (.slice (some ⟨w.heap.size,0,none⟩) (len+m') (grownCap w (len+m') c e)) (w.drew.alloc (.cells (ovs.toArray ++ vs.toArray ++ Builtin.zeroCells zv.cells (grownCap w (len+m') c e - (len+m'))) e)):=by
  intro base len c ovs ho hle hc
  have:=run_append_grow_src (P:=P) w t t' ty e i zv hd hi hiz base len c ovs (by rw[his]; exact ho) ux m' vs hsrc hc (by omega) (Gk hc (by omega) (by omega))
  rw[this,JQ]
 have fresh:∀{st:St} (I:Inv W0 G st w) (len:Nat) (br:Bool) (old:List AV) (ovs:List Value),aT G st w old ovs→aT G st w new vs→old.length=len * sz→0<m'→len≤iL→ ∀ oldc,
  ∃ v w' G', (Result.ok (.slice (some ⟨w.heap.size, 0, none⟩) (len + m') (grownCap w (len + m') oldc e)) (w.drew.alloc (.cells (ovs.toArray ++ vs.toArray ++ Builtin.zeroCells zv.cells (grownCap w (len + m') oldc e - (len + m'))) e)) : Result Value) = .ok v w' ∧
   Le G st w G' (st.Ih (eS br e (len+m') sz none (old ++ new))).2 w'∧sE G st G' (st.Ih (eS br e (len+m') sz none (old ++ new))).2∧Inv W0 G' (st.Ih (eS br e (len+m') sz none (old ++ new))).2 w' ∧
   aV G' (st.Ih (eS br e (len+m') sz none (old ++ new))).2 w' (st.Ih (eS br e (len+m') sz none (old ++ new))).1 v:=by
  intro st I len br old ovs h1 h5 h2 h3 h4 oldc
  have hge:=grownCap_ge w (len+m') oldc e
  have ho1:=h1.length
  have hn1:=h5.length
  have hcsz:(ovs.toArray ++ vs.toArray ++ Builtin.zeroCells zv.cells (grownCap w (len+m') oldc e - (len+m'))).size=grownCap w (len+m') oldc e * sz:=by
   simp only[Array.size_append,List.size_toArray,size_zeroCells,hzs]
   rw[ho1,hn1,h2,k2,← Nat.add_mul,← Nat.add_mul]
   congr 1
   omega
  have hI:=(I.drew).push (eS br e (len+m') sz none (old ++ new)).2
  have hrep:aT G (st.push (eS br e (len+m') sz none (old ++ new)).2) w.drew (old ++ new) (ovs ++ vs):=aT.mono (Le.drew.trans (Le.push I.drew _)) _ _ (aT.append h1 h5)
  have hm:=Df (W0:=W0) (cQ:=br) (id:=st.next) (len:=len+m') (sz:=sz) (c:=grownCap w (len+m') oldc e) (cap:=none) (cs:=old ++ new) (vs:=ovs ++ vs)
   (C:=ovs.toArray ++ vs.toArray ++ Builtin.zeroCells zv.cells (grownCap w (len+m') oldc e - (len+m'))) (t:=e) hI (by simp[St.push]) (xX I.drew) (CC _) hrep
   (fun j v hj=>Jq hj) (by rw[List.length_append,h2,k2,Nat.add_mul]) hs0 hge hcsz.symm (fun k hk=>by cases hk) (r:=_) rfl
  have hd:=yZ.drew (yZ.Ht I.drew hm)
  obtain⟨n',v',w',G',e1,e2,e3,e4,e5,e6⟩:=hd
  injection e1 with e1 e1'
  subst e1'
  refine⟨_,_,G',rfl,e3,e4,e5,?_⟩
  rcases e2 with rfl | ⟨rfl,_⟩
  ·injection e1 with e1
   subst e1
   exact e6
  ·cases e1
 split at h
 ·
  simp only[aV] at hs
  subst hs
  cases hb:Nat.beq m' 0 with
  | true =>
    rw[hb] at h
    injection h with h
    injection h with h1 h2
    subst h1; subst h2
    have:=Nat.eq_of_beq_eq_true hb
    exact⟨_,w,G,zero none 0 0 (Nat.le_refl _) this,Le.refl _ _ _,sE.refl _ _,I,by simp[aV]⟩
  | false =>
    rw[hb] at h
    have hn0:0<m':=by
     rcases Nat.eq_zero_or_pos m' with rfl | h
     ·simp at hb
     ·exact h
    simp only[cond_false] at h
    injection h with h
    obtain⟨v,w',G',f1,f2,f3,f4,f5⟩:=fresh I 0 cQ [] [] aT.nil k1 (by simp) hn0 (by omega) 0
    simp only[Nat.zero_add,List.nil_append] at f1 f2 f3 f4 f5
    rw[h] at f2 f3 f4 f5
    refine⟨v,w',G',?_,f2,f3,f4,f5⟩
    have:=grow none 0 0 [] (run_firstCells_none w.drew sz 0 0 0) (by omega) (by omega)
    simp only[Nat.zero_add] at this
    rw[this]
    exact f1
 ·
  rename_i id e0 len sz' cap cs
  have hs':=hs
  simp only[aV] at hs
  obtain⟨b,off,c,m0,n0,rfl,x2,x3,x4,x5,x6,x7,x8,t0,x9,x10,x11,x12⟩:=hs
  cases hb:Nat.beq m' 0 with
  | true =>
    rw[hb] at h
    simp only[cond_true] at h
    injection h with h
    injection h with h1 h2
    subst h1; subst h2
    exact⟨_,w,G,zero _ len c x7 (Nat.eq_of_beq_eq_true hb),Le.refl _ _ _,sE.refl _ _,I,hs'⟩
  | false =>
    rw[hb] at h
    have hn0:0<m':=by
     rcases Nat.eq_zero_or_pos m' with rfl | h
     ·simp at hb
     ·exact h
    simp only[cond_false] at h
    have h0:=fK h; clear h
    obtain⟨hq,h⟩:=h0
    simp only[Bool.not_eq_false',Bool.and_eq_true] at hq
    have hlen:=Nat.le_of_ble_eq_true hq.1
    have hsz':sz=sz':=Nat.eq_of_beq_eq_true hq.2
    subst hsz'
    obtain⟨ovs,o1,o2,o3⟩:=x4.values
    have hold:(Builtin.firstCells sz len (.slice (some ⟨b,off,none⟩) len c)).run P w.drew=.ok ovs.toArray w.drew:=by
     have:=run_loadCells_list (P:=P) w.drew ⟨b,off,none⟩ ovs (fun j v hj=>by rw[iD]; exact o3 j v hj)
     rw[o2,x5] at this
     simpa[Builtin.firstCells] using this
    cases hcap:cap.any fun c=>Nat.blt c (len+m') with
    | true =>
      rw[hcap] at h
      simp only[cond_true] at h
      injection h with h
      have hcc:c<len+m':=by
       cases cap with
       | none=>simp at hcap
       | some c'=>rw[x8 c' rfl]; exact Bh (by simpa using hcap)
      obtain⟨v,w',G',f1,f2,f3,f4,f5⟩:=fresh I len cQ cs ovs o1 k1 x5 hn0 hlen c
      rw[h] at f2 f3 f4 f5
      exact⟨v,w',G',by rw[grow _ len c ovs hold hlen hcc]; exact f1,f2,f3,f4,f5⟩
    | false =>
      rw[hcap] at h
      simp only[cond_false] at h
      split at h
      rotate_left
      ·cases h
      rename_i h1 hget
      obtain⟨hq2,h⟩:=b7 h
      simp only[Bool.and_eq_true,Bool.not_eq_true'] at hq2
      have hh:h1=e0:=Nat.eq_of_beq_eq_true hq2.1
      subst hh
      injection h with h
      injection h with e1 e2
      subst e1; subst e2
      rw[x9] at hget
      injection hget with hget
      injection hget with hget
      subst hget
      have hborn:¬ G.lM id:=fun hu=>hu.2 _ _ _ x2
      have hids:=I.Ac b id m0 n0 x2
      have hcn:(cs ++ new).length=(len+m') * sz:=by rw[List.length_append,x5,k2,Nat.add_mul]
      by_cases hroom:len+m'≤c
      ·obtain⟨y1,y2⟩:=x12 rfl (by omega)
       have hmul:(len+m') * sz≤c * sz:=Nat.mul_le_mul_right _ hroom
       have hmk:m0+new.length≤n0:=by
            rw[Nat.add_mul] at hmul
            omega
       have e3:off+len * sz=m0:=by omega
       have hst:(storeCells ⟨b,off+len * sz,none⟩ vs).run P w=.ok () (w.setCells b m0 vs):=by
            rw[e3]
            have:=run_storeCells_cells (P:=P) b m0 vs 0 w (fun j hj=>by
             have:=(I.qK b id m0 n0 (m0+j) x2 (by omega)).1
             simpa using this) (fun j hj=>by
             have:=(I.qK b id m0 n0 (m0+j) x2 (by omega)).2
             simpa using this) (k1.one q1)
            simpa using this
       have L:=Le.grow (w:=w) (k:=new.length) (vs:=vs) x2 x9
       have hrun:=run_append_room_src (P:=P) w t t' ty e i hd hi b off len c ux m' vs hsrc hroom (fun j hj=>by rw[his,e3]; exact(I.qK b id m0 n0 (m0+j) x2 (by omega)).1) (fun j hj=>by rw[his,e3]; exact(I.qK b id m0 n0 (m0+j) x2 (by omega)).2)
       rw[his,e3] at hrun
       refine⟨_,_,_,hrun,L,?_,I.grow x2 x9 hmk,?_⟩
       ·intro j hj hu
        exact⟨((sE.put (st:=st) (o:=.nE (t0+new.length)) hborn) j hj hu).1,AE hu (by rintro rfl; exact hborn hu)⟩
       ·simp only[aV]
        refine⟨b,off,c,m0+new.length,n0,rfl,by simp[Gh.grown],by simp; omega,?_,hcn,x6,hroom,x8,t0+new.length,by simp[St.put,Tr.bP],Nat.le_refl _,by simp; omega,fun _ _=>⟨by simp; omega,y2⟩⟩
        rw[dT.append]
        refine⟨dT.mono L b off m0 id n0 x2 cs x3 x4,?_⟩
        rw[y1]
        refine dT.n6 (aT.mono L _ _ k1) fun j v hv=>?_
        have hj:=(List.getElem?_eq_some_iff.1 hv).1
        rw[World.cell?_setCells_in b vs m0 w (fun i hi=>(I.qK b id m0 n0 (m0+i) x2 (by omega)).1) j hj]
        rw[List.getElem?_eq_getElem hj] at hv
        exact hv
      ·have hc:c<len+m':=by omega
       have hge:=grownCap_ge w (len+m') c e
       have ho1:=o1.length
       have hcsz:(ovs.toArray ++ vs.toArray ++ Builtin.zeroCells zv.cells (grownCap w (len+m') c e - (len+m'))).size=grownCap w (len+m') c e * sz:=by
            simp only[Array.size_append,List.size_toArray,size_zeroCells,hzs]
            rw[o2,hvl,x5,← Nat.add_mul,← Nat.add_mul]
            congr 1
            omega
       have hmul:(len+m') * sz≤grownCap w (len+m') c e * sz:=Nat.mul_le_mul_right _ hge
       have I1:=I.drew.Ib x9 (h':=t0+new.length) (by omega) hids.2.2.1
       have L1:Le G st w G (st.put id (.nE (t0+new.length))) w.drew:=Le.drew.trans (Le.Ib x9 (by omega))
       have hget':(st.put id (.nE (t0+new.length))).aS.get id=some (.nE (t0+new.length)):=by simp[St.put,Tr.bP]
       have L2:=Le.AA I1 (id,(cs ++ new).length,(ovs.toArray ++ vs.toArray ++ Builtin.zeroCells zv.cells (grownCap w (len+m') c e - (len+m'))).size)
            (.cells (ovs.toArray ++ vs.toArray ++ Builtin.zeroCells zv.cells (grownCap w (len+m') c e - (len+m'))) e)
       have I2:=I1.AA (C:=ovs.toArray ++ vs.toArray ++ Builtin.zeroCells zv.cells (grownCap w (len+m') c e - (len+m'))) (t:=e) (m:=(cs ++ new).length) hids.2.2.1 hids.2.2.2.2.1 hget' (by omega)
       refine⟨_,_,_,grow _ len c ovs hold hlen hc,L1.trans L2,?_,I2,?_⟩
       ·intro j hj hu
        exact⟨((sE.put (st:=st) (o:=.nE (t0+new.length)) hborn) j hj hu).1,AE hu (by rintro rfl; exact hborn hu)⟩
       ·simp only[aV]
        refine⟨w.heap.size,0,grownCap w (len+m') c e,(cs ++ new).length,_,rfl,by simp[Gh.grown]; rfl,by simp,?_,hcn,x6,hge,fun k hk=>?_,t0+new.length,hget',Nat.le_refl _,by simp; omega,fun _ _=>⟨by simp,?_⟩⟩
        ·refine dT.n6 (aT.mono (L1.trans L2) _ _ (aT.append o1 k1)) fun j v hv=>?_
         rw[Nat.zero_add]
         have:=Co (w:=w.drew) (ovs.toArray ++ vs.toArray ++ Builtin.zeroCells zv.cells (grownCap w (len+m') c e - (len+m'))) e (0,0) j
         rw[show w.heap.size=w.drew.heap.size from rfl,this]
         exact Jq hv
        ·subst hk
         have:=x8 k rfl
         subst this
         have:Nat.blt c (len+m')=true:=Nat.ble_eq_true_of_le hc
         simp[this] at hcap
        ·rw[Nat.zero_add]
         simp only[Array.size_append,List.size_toArray] at hcsz
         exact Nat.le_of_eq hcsz.symm
 ·
  rename_i id off len sz' cap
  have hs':=hs
  simp only[aV] at hs
  obtain⟨b,k0,n0,c,x1,rfl,x3,x4,x5,x6⟩:=hs
  cases hb:Nat.beq m' 0 with
  | true =>
    rw[hb] at h
    simp only[cond_true] at h
    injection h with h
    injection h with h1 h2
    subst h1; subst h2
    exact⟨_,w,G,zero _ len c x3 (Nat.eq_of_beq_eq_true hb),Le.refl _ _ _,sE.refl _ _,I,hs'⟩
  | false =>
    rw[hb] at h
    have hn0:0<m':=by
     rcases Nat.eq_zero_or_pos m' with rfl | h
     ·simp at hb
     ·exact h
    simp only[cond_false] at h
    have h0:=fK h; clear h
    obtain⟨hq,h⟩:=h0
    simp only[Bool.not_eq_false',Bool.and_eq_true] at hq
    have hlen:=Nat.le_of_ble_eq_true hq.1
    have hsz':sz=sz':=Nat.eq_of_beq_eq_true hq.2
    subst hsz'
    have inplace:∀{st1:St} (cap':Option Nat),cap'=cap→len+m'≤c→iH st (.ref id (off+len * sz)) new=some st1 →
     ∃ v w' G',(Builtin.append_ #[t,t'] ty #[.slice (some ⟨b,off,none⟩) len c,ux]).run P w=.ok v w'∧Le G st w G' st1 w'∧sE G st G' st1∧Inv W0 G' st1 w'∧aV G' st1 w' (.j9 id off (len+m') sz cap') v:=by
     rintro st1 _ rfl hroom hst1
     have hp:aV G st w (.ref id (off+len * sz)) (.pointer (some ⟨b,off+len * sz,none⟩)):=by simp only[aV]; exact⟨b,k0,n0,x1,rfl⟩
     obtain⟨b',off',w',e1,s1,s2,s3,s4⟩:=zL (P:=P) I hp k1 q1 hst1
     injection e1 with e1; injection e1 with e1; injection e1 with e1 e2
     subst e1; subst e2
     refine⟨_,w',G,?_,s2,s3,s4,by simp only[aV]; exact⟨b,k0,n0,c,x1,rfl,hroom,x4,x5,x6⟩⟩
     rcases hsrc.kind with⟨e',hk⟩ | hk <;> simp[Builtin.append_,run_underlying hd,run_underlying hk,sizeOf,typeInfo,hi,hsrc.len,hroom,hfc,iD,his,s1]
    split at h
    ·rename_i c'
     obtain rfl:=x4 c' rfl
     cases hroom:Nat.ble (len+m') c with
     | true =>
       rw[hroom] at h
       simp only[cond_true,Option.bind_eq_some_iff] at h
       obtain⟨st1,hst1,h⟩:=h
       injection h with h
       injection h with e1 e2
       subst e1; subst e2
       exact inplace _ rfl (Nat.le_of_ble_eq_true hroom) hst1
     | false =>
       rw[hroom] at h
       simp only[cond_false,Option.bind_eq_some_iff] at h
       obtain⟨old,hold,h⟩:=h
       injection h with h
       have hc:c<len+m':=by
            rcases Nat.lt_or_ge c (len+m') with h | h
            ·exact h
            ·rw[Nat.ble_eq_true_of_le h] at hroom; cases hroom
       rcases wH I hs' hold ⟨len,rfl,Nat.le_refl _⟩ with⟨hh,_⟩ | ⟨b2,off2,c2,m2,ovs,hh,_,_,o1,o2,o3⟩
       ·cases hh
       ·injection hh with hh1 hh2 hh3
        injection hh1 with hh1
        rw[← hh1] at o3
        have ho1:=o1.length
        have hold':(Builtin.firstCells sz len (.slice (some ⟨b,off,none⟩) len c)).run P w.drew=.ok ovs.toArray w.drew:=by
         have:=run_loadCells_list (P:=P) w.drew ⟨b,off,none⟩ ovs (by simpa using o3)
         rw[ho1,o2] at this
         simpa[Builtin.firstCells] using this
        obtain⟨v,w',G',f1,f2,f3,f4,f5⟩:=fresh I len true old ovs o1 k1 o2 hn0 hlen c
        rw[h] at f2 f3 f4 f5
        exact⟨v,w',G',by rw[grow _ len c ovs hold' hlen hc]; exact f1,f2,f3,f4,f5⟩
    ·obtain ⟨y1, y2⟩ := x5 rfl
     split at h
     ·rename_i ct uf cs hcs
      obtain⟨j1,j2,j3,j4,j5,j6⟩:=I.nI id b k0 n0 ct uf cs x1 hcs
      cases hroom:Nat.ble (off+(len+m') * sz) cs.length with
      | true =>
        rw[hroom] at h
        simp only[cond_true,Option.bind_eq_some_iff] at h
        obtain⟨st1,hst1,h⟩:=h
        injection h with h
        injection h with e1 e2
        subst e1; subst e2
        have hroom:=Nat.le_of_ble_eq_true hroom
        have hle:len+m'≤c:=by
         have:(len+m') * sz≤c * sz:=by omega
         exact Nat.le_of_mul_le_mul_right this x6
        exact inplace _ rfl hle hst1
      | false =>
        rw[hroom] at h
        simp only[cond_false] at h
        have h0:=b7 h
        clear h
        obtain⟨hq,h⟩:=h0
        simp only[Bool.and_eq_true] at hq
        have e0:=Nat.eq_of_beq_eq_true hq.1.1
        have e1:=Nat.le_of_ble_eq_true hq.1.2
        have hct:ct=e:=Nat.eq_of_beq_eq_true hq.2
        subst e0
        simp only[Nat.zero_add] at y1 y2 hroom
        injection h with h
        have hmul:(len+m') * sz=len * sz+m' * sz:=Nat.add_mul _ _ _
        obtain⟨ovs',o1,o2,o3⟩:=(j1.take (len * sz)).values
        simp only[Nat.zero_add] at o3
        have htl:(cs.take (len * sz)).length=len * sz:=by simp; omega
        rcases Nat.lt_or_ge c (len+m') with hc | hc
        ·
         have hold':(Builtin.firstCells sz len (.slice (some ⟨b,0,none⟩) len c)).run P w.drew=.ok ovs'.toArray w.drew:=by
             have:=run_loadCells_list (P:=P) w.drew ⟨b,0,none⟩ ovs' (fun j v hj=>by rw[iD,Nat.zero_add]; exact o3 j v hj)
             rw[o2,htl] at this
             simpa[Builtin.firstCells] using this
         have L1:=Le.kill I x1
         have I1:=I.kill x1 hcs (by intro e; cases e)
         obtain⟨v,w',G',f1,f2,f3,f4,f5⟩:=fresh I1 len true (cs.take (len * sz)) ovs' (aT.mono L1 _ _ o1) (aT.mono L1 _ _ k1) htl hn0 hlen c
         rw[h] at f2 f3 f4 f5
         refine⟨v,w',G',by rw[grow _ len c ovs' hold' hlen hc]; exact f1,L1.trans f2,?_,f4,f5⟩
         exact(sE.put (by intro hu; rw[hu.1] at x1; cases x1)).trans (Nat.le_refl _) f3
        ·
         have hm1:(len+m') * sz≤c * sz:=Nat.mul_le_mul_right _ hc
         have hrun:=run_append_room_src (P:=P) w t t' ty e i hd hi b 0 len c ux m' vs hsrc hc (fun j hj=>yN j5 (by rw[his]; omega)) (fun j hj=>by rw[his]; exact j6 _ (by omega))
         rw[his,Nat.zero_add] at hrun
         have hlr:(cs.take (len * sz) ++ new).length=(len+m') * sz:=by rw[List.length_append,htl,k2,hmul]
         subst hct
         have L:=Le.Ju (off:=len * sz) (vs:=vs) (a_:=cs.take (len * sz) ++ new) (t:=ct) I x1
         have hmoved:=I.Ju (off:=len * sz) (vs:=vs) (a_:=cs.take (len * sz) ++ new) (us:=ovs' ++ vs) x1 hcs (aT.append o1 k1) (fun j u hu=>by
             rcases Nat.lt_or_ge j ovs'.length with hj | hj
             ·rw[List.getElem?_append_left hj] at hu
              rw[World.cell?_setCells_out b vs (len * sz) w _ (fun _=>by simp; omega)]
              exact o3 j u hu
             ·rw[List.getElem?_append_right hj] at hu
              have hjv:=(List.getElem?_eq_some_iff.1 hu).1
              have:=World.cell?_setCells_in b vs (len * sz) w (fun i hi=>yN j5 (by omega)) (j - ovs'.length) hjv
              rw[show len * sz+(j - ovs'.length)=j by omega] at this
              rw[this]
              rw[List.getElem?_eq_getElem hjv] at hu
              exact hu) (by rw[hlr]; omega)
         simp only[eS,St.Ih] at h
         injection h with h1 h2
         subst h1; subst h2
         refine⟨_,_,_,hrun,L,?_,hmoved,?_⟩
         ·refine((sE.put (o:=.dead) (by intro hu; rw[hu.1] at x1; cases x1)).trans (Nat.le_refl _) ?_:sE G st _ _)
          intro i hi hu
          refine⟨(sE.push (G:=G) _ i hi hu).1,xP hu (by have:i<st.next:=hi; omega)⟩
         ·simp only[aV]
          refine⟨b,_,_,c,rD _ _,rfl,hc,(fun k hk=>by cases hk),(fun _=>⟨?_,?_⟩),x6⟩
          ·rw[hlr]; omega
          ·omega
     ·cases h
 ·cases h
theorem Ai:∀{cs:List AV} {l:List UInt8} {vs:List Value},bytesOf cs=some l→aT G st w cs vs→ ∃ ns:List Int,vs=ns.map (Value.int .u8)∧ns.map (fun n=>UInt8.ofNat n.toNat)=l
 | [], l, vs, h, hr => by
   simp only[bytesOf] at h
   injection h with h
   subst h
   rw[hr.hT]
   exact⟨[],rfl,rfl⟩
 | c :: cs, l, vs, h, hr => by
   obtain⟨v,r,rfl,hv,hr2⟩:=hr.cons_inv
   clear hr
   unfold bytesOf at h
   split at h
   ·rename_i e; cases e
   ·rename_i n r' e
    injection e with e1 e2
    subst e1; subst e2
    simp only[Option.bind_eq_some_iff] at h
    obtain⟨l',h1,h2⟩:=h
    injection h2 with h2
    subst h2
    simp only[aV] at hv
    subst hv
    obtain⟨ns,rfl,rfl⟩:=Ai h1 hr2
    exact⟨n :: ns,rfl,rfl⟩
   ·cases h
end
end Go.Ev
end
section
set_option linter.all false
namespace Go.Ev
open Go.RowKit (Below)
section
variable {P:Program}{W0:World}{G:Gh}{st:St}{w:World}
theorem gZ {r:Nat}{o:Obj}(h:w.heap[r]? =some o)(hl:Obj.Jr o):(getObj r).run P w=.ok o w:=by
 cases o <;> first | (cases hl; done) | simp[getObj,Sem.run,h]
theorem r9 {r:Nat}{o:Obj}(h:w.heap[r]? =some o)(hl:Obj.Jr o)(o':Obj):(setObj r o').run P w=.ok () (w.putObj r o'):=by
 cases o <;> first | (cases hl; done) | simp[setObj,Sem.run,h,World.putObj]
theorem fN.get:∀{es:List (AV×AV×Nat)} {l:List MapEntry} {i:Nat} {e:AV×AV×Nat},fN G st w es l→es[i]? =some e→ ∃ m,l[i]? =some m∧aV G st w e.1 m.key∧aV G st w e.2.1 m.val∧m.born=e.2.2
 | [],l,i,e,_,hi=>by simp at hi
 | (k, v, b) :: es, l, i, e, h, hi => by
   obtain⟨k',v',r,rfl,h1,h2,h3⟩:=h
   cases i with
   | zero=>simp at hi; subst hi; exact⟨⟨k',v',b⟩,by simp,h1,h2,rfl⟩
   | succ i=>simp at hi; obtain⟨m,m1,m2⟩:=fN.get h3 hi; exact⟨m,by simpa using m1,m2⟩
theorem fN.length:∀{es:List (AV×AV×Nat)} {l:List MapEntry},fN G st w es l→l.length=es.length
 | [],l,h=>by rw[h]; rfl
 | (k, v, b) :: es, l, h => by
   obtain⟨k',v',r,rfl,_,_,h3⟩:=h
   simp[fN.length h3]
theorem fN.append:∀{es fs:List (AV×AV×Nat)} {l m:List MapEntry},fN G st w es l→fN G st w fs m→fN G st w (es ++ fs) (l ++ m)
 | [],_,l,_,h,k=>by rw[h]; exact k
 | (k, v, b) :: es, _, l, _, h, hk => by
   obtain⟨k',v',r,rfl,h1,h2,h3⟩:=h
   exact⟨k',v',_,rfl,h1,h2,fN.append h3 hk⟩
theorem fN.erase:∀{es:List (AV×AV×Nat)} {l:List MapEntry} (i:Nat),fN G st w es l→fN G st w (es.eraseIdx i) (l.eraseIdx i)
 | [],l,i,h=>by rw[h]; simp[fN]
 | (k, v, b) :: es, l, 0, h => by
   obtain⟨k',v',r,rfl,h1,h2,h3⟩:=h
   simpa using h3
 | (k, v, b) :: es, l, i + 1, h => by
   obtain⟨k',v',r,rfl,h1,h2,h3⟩:=h
   exact⟨k',v',_,rfl,h1,h2,fN.erase i h3⟩
theorem fN.setAt {k v:AV}{k' v':Value}(hk:aV G st w k k')(hv:aV G st w v v'):∀{es:List (AV×AV×Nat)} {l:List MapEntry} (i:Nat),fN G st w es l→fN G st w (setAt es i k v) (l.modify i fun e=>{ e with key:=k',val:=v' })
 | [],l,i,h=>by rw[h]; simp[Ev.setAt,fN]
 | (a, c, b) :: es, l, 0, h => by
   obtain⟨a',c',r,rfl,h1,h2,h3⟩:=h
   exact⟨k',v',_,rfl,hk,hv,h3⟩
 | (a, c, b) :: es, l, i + 1, h => by
   obtain⟨a',c',r,rfl,h1,h2,h3⟩:=h
   exact⟨a',c',_,rfl,h1,h2,fN.setAt hk hv i h3⟩
theorem fN.OK:∀{es:List (AV×AV×Nat)} {l:List MapEntry},fN G st w es l→l.map (·.born)=es.map (·.2.2)
 | [],l,h=>by rw[h]; rfl
 | (k, v, b) :: es, l, h => by
   obtain⟨k',v',r,rfl,_,_,h3⟩:=h
   simp[fN.OK h3]
theorem fN.filter {p:Nat→Bool}:∀{es:List (AV×AV×Nat)} {l:List MapEntry},fN G st w es l→fN G st w (es.filter fun e=>p e.2.2) (l.filter fun e=>p e.born)
 | [],l,h=>by rw[h]; simp[fN]
 | (k, v, b) :: es, l, h => by
   obtain⟨k',v',r,rfl,h1,h2,h3⟩:=h
   have ih:=fN.filter (p:=p) h3
   simp only[List.filter_cons]
   split
   ·exact⟨k',v',_,rfl,h1,h2,ih⟩
   ·exact ih
theorem yQ {kt:TypeId}{d:TypeDesc}{a b:Value}{r:Bool}(hd:P.underlying kt=some d)(h:Instr.sameNow d a b=some r):(Op.equal kt a b).run P w=.ok r w:=by
 unfold Op.equal Op.maxDepth
 cases d <;> cases a <;> cases b <;> simp only[Instr.sameNow] at h <;> first | (cases h; done) | skip
 ·injection h with h; subst h; exact run_equalIn_bool w 9999 kt _ _ hd
 ·split at h
  ·rename_i hk
   injection h with h; subst h; subst hk
   exact run_equalIn_int w 9999 kt _ _ _ _ hd
  ·cases h
 ·injection h with h; subst h
  rw[run_equalIn_string w 9999 kt _ _ hd,beq_toListBytes]
theorem B0 {kt:TypeId}{d:TypeDesc}{k:Value}(hd:P.underlying kt=some d):∀{l:List MapEntry} {i:Nat} {r:Option (Nat×Value)},Instr.findNow d k l i=some r→(Instr.findAsking kt k l i).run P w=.ok r w
 | [],i,r,h=>by simp only[Instr.findNow] at h; injection h with h; subst h; rfl
 | e :: l, i, r, h => by
   simp only[Instr.findNow] at h
   simp only[Instr.findAsking,Sem.run_bind]
   split at h
   ·rename_i hs
    injection h with h; subst h
    rw[yQ hd hs,Result.andThen_ok]
    simp
   ·rename_i hs
    rw[yQ hd hs,Result.andThen_ok]
    simpa using B0 hd h
   ·cases h
theorem Cn {kt:TypeId}{d:TypeDesc}{k:Value}{l:List MapEntry}{r:Option (Nat×Value)}(hd:P.underlying kt=some d)(h:(Instr.findAsking kt k l 0).run P w=.ok r w):(Instr.findKey kt k l).run P w=.ok r w:=by
 unfold Instr.findKey
 simp only[Sem.run_bind,run_underlying hd,Result.andThen_ok]
 split
 ·rename_i r' hr
  have:=B0 (P:=P) (w:=w) hd hr
  rw[h] at this
  injection this with this
  subst this
  rfl
 ·exact h
theorem CO {kt:TypeId}{k:AV}{k':Value}(hk:aV G st w k k'):∀{es:List (AV×AV×Nat)} {l:List MapEntry} {i:Nat} {r:Option (Nat×AV)},fN G st w es l→yY P kt k es i=some r →
 ∃ r',(Instr.findAsking kt k' l i).run P w=.ok r' w∧(r=none→r'=none)∧ ∀ j v,r=some (j,v)→ ∃ v' n,j=i+n∧r'=some (j,v')∧aV G st w v v'∧n<es.length
 | [], l, i, r, h, hr => by
   rw[h]
   simp only[yY] at hr
   injection hr with hr
   subst hr
   exact⟨none,rfl,fun _=>rfl,fun j v e=>by cases e⟩
 | (a, c, b) :: es, l, i, r, h, hr => by
   obtain⟨a',c',m,rfl,h1,h2,h3⟩:=h
   simp only[yY,Option.bind_eq_some_iff] at hr
   obtain⟨t,ht,hr⟩:=hr
   have he:(Op.equal kt k' a').run P w=.ok t w:=Gc (P:=P) 9980 20 hk h1 ht
   simp only[Instr.findAsking,Sem.run_bind,he,Result.andThen_ok]
   cases t with
   | true =>
     injection hr with hr
     subst hr
     exact⟨some (i,c'),by simp,(fun e=>by cases e),(fun j v e=>by injection e with e; injection e with e1 e2; subst e1; subst e2; exact⟨c',0,rfl,rfl,h2,by simp⟩)⟩
   | false =>
     obtain⟨r',r1,r2,r3⟩:=CO hk h3 hr
     refine⟨r',by simpa using r1,r2,fun j v e=>?_⟩
     obtain⟨v',n,e1,e2,e3,e4⟩:=r3 j v e
     exact⟨v',n+1,by omega,e2,e3,by simp; omega⟩
theorem B4 {kt:TypeId}{d:TypeDesc}{k:AV}{k':Value}{es:List (AV×AV×Nat)}{l:List MapEntry}{r:Option (Nat×AV)}(hd:P.underlying kt=some d)(hk:aV G st w k k')(h:fN G st w es l)(hr:yY P kt k es 0=some r):
 ∃ r',(Instr.findKey kt k' l).run P w=.ok r' w∧(r=none→r'=none)∧ ∀ j v,r=some (j,v)→ ∃ v',r'=some (j,v')∧aV G st w v v'∧j<es.length:=by
 obtain⟨r',r1,r2,r3⟩:=CO hk h hr
 refine⟨r',Cn hd r1,r2,fun j v e=>?_⟩
 obtain⟨v',n,e1,e2,e3,e4⟩:=r3 j v e
 exact⟨v',e2,e3,by omega⟩
theorem uP {e : Bool} {D : Nat} {us : Array Value} {xs : List AV} {okf : TypeId → AV → Bool} (A9 : ∀ t x u, okf t x = true → aV G st w x u → (Instr.checkKey e D t u).run P w = .ok () w) (hx : aT G st w xs us.toList) : ∀ {fs : List Field},
 fs.all (fun f=>f.name == "_" || (match partOf P f.type xs f.offset with | some y=>okf f.type y | none=>false))=true →
 (forIn (m:=Sem) fs PUnit.unit fun f _=>do
  if f.name≠ "_" then
   Instr.checkKey e D f.type (← part f.type us f.offset)
   pure (ForInStep.yield PUnit.unit)
  else pure (ForInStep.yield PUnit.unit)).run P w=.ok PUnit.unit w
 | [],_=>rfl
 | f :: fs, h => by
   simp only[List.all_cons,Bool.and_eq_true] at h
   simp only[List.forIn_cons,Sem.run_bind,Sem.run_ite]
   by_cases hn:f.name= "_"
   ·rw[if_neg (by simpa using hn)]
    simp only[Sem.run_pure,Result.andThen_ok]
    exact uP A9 hx h.2
   ·rw[if_pos hn]
    have h1:=h.1
    rw[Bool.or_eq_true] at h1
    rcases h1 with h1 | h1
    ·exact absurd (by simpa using h1) hn
    ·split at h1
     ·rename_i y hy
      obtain⟨u,u1,u2⟩:=wE hx hy
      simp only[Sem.run_bind,u1,Result.andThen_ok,A9 _ _ _ h1 u2,Sem.run_pure]
      exact uP A9 hx h.2
     ·cases h1
theorem GC (e:Bool)(D:Nat):∀(n:Nat) {t:TypeId} {x:AV} {u:Value},Dg P n t x=true→aV G st w x u→(Instr.checkKey e (D+n) t u).run P w=.ok () w
 | 0,t,x,u,h,_=>by simp[Dg] at h
 | n + 1, t, x, u, h, hx => by
   simp only[Dg] at h
   rw[show D+(n+1)=(D+n)+1 by omega]
   split at h
   ·rename_i k hd
    unfold Instr.checkKey
    simp only[Sem.run_bind,run_underlying hd,Result.andThen_ok]
    cases u <;> rfl
   ·rename_i hd
    unfold Instr.checkKey
    simp only[Sem.run_bind,run_underlying hd,Result.andThen_ok]
    cases u <;> rfl
   ·rename_i hd
    unfold Instr.checkKey
    simp only[Sem.run_bind,run_underlying hd,Result.andThen_ok]
    cases u <;> rfl
   ·rename_i fs xs hd
    simp only[aV] at hx
    obtain⟨us,rfl,hx⟩:=hx
    unfold Instr.checkKey
    simp only[Sem.run_bind,run_underlying hd,Result.andThen_ok]
    rw[← Array.forIn_toList]
    have:=uP (P:=P) (e:=e) (D:=D+n) (okf:=Dg P n) (fun t x u h hx=>GC e D n h hx) hx h
    simp at this ⊢
    rw[this]
    rfl
   ·cases h
theorem zS {t:TypeId}{k:AV}{kt et:TypeId}(h:Dc P t k=some (kt,et)):P.underlying t=some (.map kt et)∧Dg P 5 kt k=true∧ ∃ d,P.underlying kt=some d:=by
 simp only[Dc,Option.bind_eq_some_iff] at h
 obtain⟨d,hd,h⟩:=h
 split at h
 ·obtain⟨hq,h⟩:=b7 h
  injection h with h; injection h with h1 h2; subst h1; subst h2
  refine⟨hd,hq,?_⟩
  simp only[Dg] at hq
  split at hq <;> first | (cases hq; done) | (rename_i hd' <;> exact⟨_,hd'⟩)
 ·cases h
theorem pK {t:TypeId}{k:AV}{kt et:TypeId}{k':Value}(h:Dc P t k=some (kt,et))(hk:aV G st w k k')(e:Bool):(Instr.checkKey e 10000 kt k').run P w=.ok () w:=
 GC e 9995 5 (zS h).2.1 hk
theorem HG (I : Inv W0 G st w) {t : TypeId} {m k v : AV} {m' k' : Value} {ok : Bool} (hm : aV G st w m m') (hk : aV G st w k k') (h : pG P st t m k ok = some v) : ∃ r, (Instr.lookup t m' k' ok).run P w = .ok r w ∧ aV G st w v r := by
 simp only[pG,Option.bind_eq_some_iff] at h
 obtain⟨⟨kt,et⟩,hmo,es,hes,r,hr,h⟩:=h
 obtain⟨ht,_,d,hd⟩:=zS hmo
 have key:∃ l:Array MapEntry,fN G st w es l.toList∧((m'=.map none∧l= #[])∨ ∃ b c,m'=.map (some b)∧w.heap[b]? =some (.map l c)):=by
  split at hes
  ·injection hes with hes; subst hes
   simp only[aV] at hm; subst hm
   exact⟨#[],rfl,.inl ⟨rfl,rfl⟩⟩
  ·rename_i id
   split at hes
   ·rename_i es' c hget
    injection hes with hes; subst hes
    simp only[aV] at hm
    obtain⟨b,k0,n0,hb,rfl⟩:=hm
    obtain⟨o,ho,es'',rfl,he⟩:=I.pL id b k0 n0 _ hb hget rfl
    exact⟨es'',he,.inr ⟨b,c,rfl,ho⟩⟩
   ·cases hes
  ·cases hes
 obtain⟨l,hl,hrun⟩:=key
 obtain⟨r',r1,r2,r3⟩:=B4 hd hk hl hr
 split at h
 ·rename_i j x
  injection h with h; subst h
  obtain⟨v',e1,e2,_⟩:=r3 _ _ rfl
  subst e1
  refine⟨if ok then .tuple #[v',.bool true] else v',?_,?_⟩
  ·unfold Instr.lookup
   rcases hrun with⟨rfl,rfl⟩ | ⟨b,c,rfl,hb⟩
   ·simp only[Sem.run_bind,run_underlying ht,Result.andThen_ok,Sem.run_pure,pK hmo hk,r1]
   ·simp only[Sem.run_bind,run_underlying ht,Result.andThen_ok,Sem.run_pure,gZ hb trivial,pK hmo hk,r1]
  ·cases ok with
   | true=>simp only[cond_true,if_true,aV]; exact⟨_,rfl,aT.cons e2 (aT.cons (by simp only[aV]) aT.nil)⟩
   | false=>simpa using e2
 ·have:=r2 rfl
  subst this
  simp only[Option.bind_eq_some_iff] at h
  obtain⟨z,hz,h⟩:=h
  injection h with h; subst h
  obtain⟨zv,z1,z2,_⟩:=rT (G:=G) (st:=st) hz w
  refine⟨if ok then .tuple #[zv,.bool false] else zv,?_,?_⟩
  ·unfold Instr.lookup
   rcases hrun with⟨rfl,rfl⟩ | ⟨b,c,rfl,hb⟩
   ·simp only[Sem.run_bind,run_underlying ht,Result.andThen_ok,Sem.run_pure,pK hmo hk,r1,z1]
   ·simp only[Sem.run_bind,run_underlying ht,Result.andThen_ok,Sem.run_pure,gZ hb trivial,pK hmo hk,r1,z1]
  ·cases ok with
   | true=>simp only[cond_true,if_true,aV]; exact⟨_,rfl,aT.cons z2 (aT.cons (by simp only[aV]) aT.nil)⟩
   | false=>simpa using z2
theorem qI (I:Inv W0 G st w){id b k n:Nat}{a0 a:gS}{o0 o:Obj}(hb:G.β id=some (b,k,n))(h0:st.aS.get id=some a0)(hv:a0.DZ=true)(h:oX G st w a o):
 Le G st w G (st.put id a) (w.putObj b o)∧sE G st G (st.put id a)∧Inv W0 G (st.put id a) (w.putObj b o):=
 ⟨Le.obj I hb a o,sE.put (by intro hu; rw[hu.1] at hb; cases hb),I.obj hb h0 hv h⟩
theorem CX {x y:AV}{u v:Value}{n:Nat}(h:Dx x y=true)(hx:aV G st w x u)(hy:aV G st w y v):Instr.sameBits n u v=true:=by
 unfold Dx at h
 split at h
 ·simp only[aV] at hx hy; subst hx; subst hy
  cases n <;> simpa[Instr.sameBits] using h
 ·simp only[aV] at hx hy; subst hx; subst hy
  rw[qC,beq_iff_eq] at h
  subst h
  cases n <;> simp only[Instr.sameBits,beq_toListBytes,beq_self_eq_true]
 ·simp only[aV] at hx hy; subst hx; subst hy
  cases n <;> simpa[Instr.sameBits] using h
 ·cases h
theorem CT:∀{xs ys:List AV} {us vs:List Value},BK xs ys=true→aT G st w xs us→aT G st w ys vs→us.length=vs.length∧(us.zip vs).all (fun(x,y)=>Instr.sameBits 9999 x y)=true
 | [],[],us,vs,h,hx,hy=>by rw[hx.hT,hy.hT]; simp
 | [],y :: ys,us,vs,h,_,_=>by simp[BK] at h
 | x :: xs,[],us,vs,h,_,_=>by simp[BK] at h
 | x :: xs, y :: ys, us, vs, h, hx, hy => by
   obtain⟨u,us,rfl,hu,hx⟩:=hx.cons_inv
   obtain⟨v,vs,rfl,hv,hy⟩:=hy.cons_inv
   simp only[BK,Bool.and_eq_true] at h
   obtain⟨e1,e2⟩:=CT h.2 hx hy
   exact⟨by simp[e1],by simp only[List.zip_cons_cons,List.all_cons,CX h.1 hu hv,e2,Bool.and_self]⟩
theorem Gw {x y:AV}{u v:Value}(h:sameKey x y=true)(hx:aV G st w x u)(hy:aV G st w y v):Instr.sameBits 10000 u v=true:=by
 unfold sameKey at h
 split at h
 ·simp only[aV] at hx hy
  obtain⟨us,rfl,hx⟩:=hx
  obtain⟨vs,rfl,hy⟩:=hy
  obtain⟨e1,e2⟩:=CT h hx hy
  have e1':us.size=vs.size:=by simpa using e1
  simp only[Instr.sameBits,e1',beq_self_eq_true,Bool.true_and]
  exact e2
 ·exact CX h hx hy
theorem CZ (I : Inv W0 G st w) {t : TypeId} {m k v : AV} {m' k' v' : Value} {st' : St} (hm : aV G st w m m') (hk : aV G st w k k') (hv : aV G st w v v') (h : qJ P st t m k v = some st') :
 ∃ w',(Instr.mapUpdate t m' k' v').run P w=.ok () w'∧Le G st w G st' w'∧sE G st G st'∧Inv W0 G st' w':=by
 simp only[qJ,Option.bind_eq_some_iff] at h
 obtain⟨⟨kt,et⟩,hmo,h⟩:=h
 obtain⟨ht,_,d,hd⟩:=zS hmo
 split at h
 ·rename_i id
  split at h
  ·rename_i es c hget
   simp only[Option.bind_eq_some_iff] at h
   obtain⟨r,hr,h⟩:=h
   simp only[aV] at hm
   obtain⟨b,k0,n0,hb,rfl⟩:=hm
   obtain⟨o,ho,l,rfl,hl⟩:=I.pL id b k0 n0 _ hb hget rfl
   obtain⟨r',r1,r2,r3⟩:=B4 hd hk hl hr
   split at h
   ·rename_i i x
    have h0:=b7 h
    clear h
    obtain⟨hq,h⟩:=h0
    injection h with h; subst h
    obtain⟨x',e1,e2,e3⟩:=r3 _ _ rfl
    subst e1
    have hO:oX G st w (.map (setAt es i k v) c) (.map (l.modify i fun e=>{ e with key:=k',val:=v' }) c):=⟨_,rfl,by
     have:=fN.setAt (k':=k') (v':=v') hk hv i hl
     simpa using this⟩
    refine⟨_,?_,qI (o0:=.map l c) I hb hget rfl hO⟩
    have hi:∃ e,es[i]? =some e:=⟨es[i],by simp[e3]⟩
    obtain⟨e,he⟩:=hi
    obtain⟨me,me1,me2,_⟩:=hl.get he
    have hsk:sameKey e.1 k=true:=by rw[he] at hq; simpa using hq
    have hbits:=Gw hsk me2 hk
    have hme:l[i]? =some me:=by simpa using me1
    unfold Instr.mapUpdate
    simp only[Sem.run_bind,run_underlying ht,Result.andThen_ok,gZ ho trivial,pK hmo hk,r1,Instr.keyThatStays,hme,Option.map_some,Option.getD_some,hbits,if_true,Sem.run_pure,r9 ho trivial]
   ·injection h with h; subst h
    have:=r2 rfl
    subst this
    have hO:oX G st w (.map (es ++ [(k,v,c)]) (c+1)) (.map (l.push { key:=k',val:=v',born:=c }) (c+1)):=⟨_,rfl,by
     rw[Array.toList_push]
     exact fN.append hl ⟨k',v',[],rfl,hk,hv,rfl⟩⟩
    refine⟨_,?_,qI (o0:=.map l c) I hb hget rfl hO⟩
    unfold Instr.mapUpdate
    simp only[Sem.run_bind,run_underlying ht,Result.andThen_ok,gZ ho trivial,pK hmo hk,r1,r9 ho trivial]
  ·cases h
 ·cases h
theorem HA (I : Inv W0 G st w) {ats : Array TypeId} {ty t : TypeId} {m k : AV} {m' k' : Value} {st' : St} (hat : ats[0]? = some t) (hm : aV G st w m m') (hk : aV G st w k k') (h : ER P st t m k = some st') :
 ∃ w',(Builtin.delete_ ats ty #[m',k']).run P w=.ok (.tuple #[]) w'∧Le G st w G st' w'∧sE G st G st'∧Inv W0 G st' w':=by
 simp only[ER,Option.bind_eq_some_iff] at h
 obtain⟨⟨kt,et⟩,hmo,h⟩:=h
 obtain⟨ht,_,d,hd⟩:=zS hmo
 unfold Builtin.delete_
 simp only[hat,List.getElem?_toArray,List.getElem?_cons_zero,List.getElem?_cons_succ,Sem.run_bind,run_underlying ht,Result.andThen_ok]
 split at h
 ·injection h with h; subst h
  simp only[aV] at hm; subst hm
  exact⟨w,by simp[pK hmo hk],Le.refl _ _ _,sE.refl _ _,I⟩
 ·rename_i id
  split at h
  ·rename_i es c hget
   simp only[Option.bind_eq_some_iff] at h
   obtain⟨r,hr,h⟩:=h
   simp only[aV] at hm
   obtain⟨b,k0,n0,hb,rfl⟩:=hm
   obtain⟨o,ho,l,rfl,hl⟩:=I.pL id b k0 n0 _ hb hget rfl
   obtain⟨r',r1,r2,r3⟩:=B4 hd hk hl hr
   split at h
   ·rename_i i x
    injection h with h; subst h
    obtain⟨x',e1,e2,e3⟩:=r3 _ _ rfl
    subst e1
    have hli:i<l.size:=by have:=hl.length; simp at this; omega
    have hO:oX G st w (.map (es.eraseIdx i) c) (.map (l.eraseIdxIfInBounds i) c):=⟨_,rfl,by
     have:=fN.erase i hl
     simpa[Array.eraseIdxIfInBounds,hli] using this⟩
    refine⟨_,?_,qI (o0:=.map l c) I hb hget rfl hO⟩
    simp only[Sem.run_bind,gZ ho trivial,Result.andThen_ok,pK hmo hk,r1,r9 ho trivial,Sem.run_pure]
   ·injection h with h; subst h
    have:=r2 rfl
    subst this
    have hO:oX G st w (.map es c) (.map l c):=⟨_,rfl,hl⟩
    refine⟨_,?_,qI (o0:=.map l c) I hb hget rfl hO⟩
    simp only[Sem.run_bind,gZ ho trivial,Result.andThen_ok,pK hmo hk,r1,r9 ho trivial,Sem.run_pure]
  ·cases h
 ·cases h
end
end Go.Ev
end
section
set_option linter.all false
namespace Go.Ev
open Go.RowKit (Below)
section
variable {P:Program}{W0:World}{G:Gh}{st:St}{w:World}
theorem xS (I:Inv W0 G st w){a:gS}{o:Obj}(h:oX G st w a o):
 Le G st w (G.born st.next (w.heap.size,0,0)) (st.push a) (w.alloc o)∧sE G st (G.born st.next (w.heap.size,0,0)) (st.push a)∧Inv W0 (G.born st.next (w.heap.size,0,0)) (st.push a) (w.alloc o):=by
 have I1:=I.push a
 have hu:=xX I
 have hO:oX G (st.push a) w a o:=h.mono (Le.push I a)
 refine⟨(Le.push I a).trans (Le.born hu I1 o),fun i hi hu'=>⟨(sE.push (G:=G) a i hi hu').1,xP hu' (by omega)⟩,I1.KJ (by simp[St.push]) hu (CC a) hO⟩
theorem HY (I:Inv W0 G st w){t:TypeId}{x v:AV}{u:Value}{st':St}(hx:aV G st w x u)(h:HL P st t x=some (v,st')):
 ∃ r w' G',(Instr.range t u).run P w=.ok r w'∧Le G st w G' st' w'∧sE G st G' st'∧Inv W0 G' st' w'∧aV G' st' w' v r:=by
 simp only[HL,Option.bind_eq_some_iff] at h
 obtain⟨d,hd,h⟩:=h
 have mk:∀(a:gS) (o:Obj),oX G st w a o→(Instr.range t u).run P w=.ok (.pointer (some ⟨w.heap.size,0,none⟩)) (w.alloc o)→v=.ref st.next 0→st'=st.push a →
  ∃ r w' G',(Instr.range t u).run P w=.ok r w'∧Le G st w G' st' w'∧sE G st G' st'∧Inv W0 G' st' w'∧aV G' st' w' v r:=by
  rintro a o hO hr rfl rfl
  obtain⟨h1,h2,h3⟩:=xS I hO
  exact⟨_,_,_,hr,h1,h2,h3,by simp only[aV]; exact⟨_,_,_,rD _ _,rfl⟩⟩
 split at h
 ·rename_i s
  injection h with h; injection h with h1 h2
  simp only[aV] at hx; subst hx
  refine mk (.BV s 0) (.stringIter ⟨s.toArray⟩ 0) rfl ?_ h1.symm h2.symm
  simp[Instr.range,run_underlying hd]
 ·injection h with h; injection h with h1 h2
  simp only[aV] at hx; subst hx
  refine mk (.iter none 0 [] 0) (.mapIter none 0 #[] 0) rfl ?_ h1.symm h2.symm
  simp[Instr.range,run_underlying hd]
 ·rename_i id
  split at h
  ·rename_i es c hget
   injection h with h; injection h with h1 h2
   simp only[aV] at hx
   obtain⟨b,k0,n0,hb,rfl⟩:=hx
   obtain⟨o,ho,l,rfl,hl⟩:=I.pL id b k0 n0 _ hb hget rfl
   refine mk (.iter (some id) c [] c) (.mapIter (some b) c #[] c) ⟨b,k0,n0,rfl,hb⟩ ?_ h1.symm h2.symm
   simp[Instr.range,run_underlying hd,gZ ho trivial]
  ·cases h
 ·cases h
theorem vM (l:Array MapEntry)(p:MapEntry→Bool):(l.filter p).toList=l.toList.filter p:=by simp
theorem Ij (I : Inv W0 G st w) {ty : TypeId} {it : AV} {u : Value} {str : Bool} {l : List (AV × St)} (hx : aV G st w it u) (h : JS st it str = some l) :
 ∃ x ∈ l,∃ r w' G',(Instr.next u str ty).run P w=.ok r w'∧Le G st w G' x.2 w'∧sE G st G' x.2∧Inv W0 G' x.2 w'∧aV G' x.2 w' x.1 r:=by
 unfold JS at h
 split at h
 rotate_left
 ·cases h
 rename_i r
 simp only[aV] at hx
 obtain⟨b,k0,n0,hb,rfl⟩:=hx
 have over:aV G st w (.tuple [.bool false]) (.tuple #[.bool false]):=by simp only[aV]; exact⟨_,rfl,aT.cons (by simp only[aV]) aT.nil⟩
 split at h
 ·rename_i s pos hget
  injection h with h; subst h
  obtain⟨o,ho,e⟩:=I.pL r b k0 n0 _ hb hget rfl
  simp only[oX] at e
  subst e
  refine⟨_,List.mem_singleton.2 rfl,?_⟩
  have hsz:(⟨s.toArray⟩:ByteArray).size=s.length:=by simp[ByteArray.size]
  by_cases hp:pos<s.length
  ·have hblt:Nat.blt pos s.length=true:=Nat.ble_eq_true_of_le hp
   simp only[hblt,cond_true]
   have hO:oX G st w (.BV s (pos+(Utf8.decode ⟨s.toArray⟩ pos).2)) (.stringIter ⟨s.toArray⟩ (pos+(Utf8.decode ⟨s.toArray⟩ pos).2)):=rfl
   obtain⟨h1,h2,h3⟩:=qI (o0:=.stringIter ⟨s.toArray⟩ pos) I hb hget rfl hO
   refine⟨.tuple #[.bool true,goInt pos,.int .i32 (Utf8.decode ⟨s.toArray⟩ pos).1],_,G,?_,h1,h2,h3,?_⟩
   ·simp[Instr.next,gZ ho trivial,hsz,hp,r9 ho trivial]
   ·simp only[aV]
    exact⟨_,rfl,aT.cons (by simp only[aV]) (aT.cons (by simp only[aV,goInt]) (aT.cons (by simp only[aV]) aT.nil))⟩
  ·have hblt:Nat.blt pos s.length=false:=by
    cases e:Nat.blt pos s.length with
    | false=>rfl
    | true=>exact absurd (Nat.le_of_ble_eq_true e) (by omega)
   simp only[hblt,cond_false]
   exact⟨_,w,G,by simp[Instr.next,gZ ho trivial,hsz,hp] <;> rfl,Le.refl _ _ _,sE.refl _ _,I,over⟩
 ·rename_i since seen last hget
  injection h with h; subst h
  obtain⟨o,ho,e⟩:=I.pL r b k0 n0 _ hb hget rfl
  simp only[oX] at e
  subst e
  exact⟨_,List.mem_singleton.2 rfl,_,w,G,by simp[Instr.next,gZ ho trivial] <;> rfl,Le.refl _ _ _,sE.refl _ _,I,over⟩
 ·rename_i m since seen last hget
  split at h
  rotate_left
  ·cases h
  rename_i es clock hm
  have h0:=fK h
  clear h
  obtain⟨hq,h⟩:=h0
  injection h with h
  dsimp only at h
  obtain⟨o,ho,mb,k1,n1,rfl,hmb⟩:=I.pL r b k0 n0 _ hb hget rfl
  obtain⟨o',ho',L,rfl,hL⟩:=I.pL m mb k1 n1 _ hmb hm rfl
  have e1:L.toList.map (·.born)=es.map (·.2.2):=hL.OK
  have guard : (!seen.toArray.isEmpty && !L.isEmpty && L.all (fun x => decide (x.born ≥ last))) = false := by
   have a1:L.isEmpty=es.isEmpty:=by
    have:=hL.length
    simp only[Array.length_toList] at this
    cases es with
    | nil=>simpa using this
    | cons _ _=>simp at this ⊢; intro e; rw[e] at this; simp at this
   have a2 : L.all (fun x => decide (x.born ≥ last)) = es.all (fun e => Nat.ble last e.2.2) := by
    rw[← Array.all_toList]
    have : ∀ (l : List MapEntry) (es : List (AV × AV × Nat)), l.map (·.born) = es.map (·.2.2) → l.all (fun x => decide (x.born ≥ last)) = es.all (fun e => Nat.ble last e.2.2) := by
     intro l
     induction l with
     | nil=>intro es h; cases es with | nil=>rfl | cons _ _=>simp at h
     | cons x l ih =>
       intro es h
       cases es with
       | nil=>simp at h
       | cons e es =>
         simp only[List.map_cons,List.cons.injEq] at h
         simp only[List.all_cons,ih es h.2,h.1]
         congr 1
         by_cases hl:last≤e.2.2
         ·simp[hl,Nat.ble_eq_true_of_le hl]
         ·have:Nat.ble last e.2.2=false:=by
              cases hb:Nat.ble last e.2.2 with
              | false=>rfl
              | true=>exact absurd (Nat.le_of_ble_eq_true hb) hl
          simp[hl,this]
    exact this _ _ e1
   rw[a1,a2]
   simpa using hq
  have seenp:∀ n:Nat,(seen.any fun b=>Nat.beq b n)=seen.toArray.contains n:=by
   intro n
   rw[Bool.eq_iff_iff,List.any_eq_true]
   simp only[List.contains_toArray,List.contains_iff_mem]
   constructor
   ·rintro⟨x,h1,h2⟩
    have:=Nat.eq_of_beq_eq_true h2
    subst this
    exact h1
   ·intro h
    exact⟨n,h,by simp⟩
  have hleft:fN G st w (es.filter fun e=>!(seen.any fun b=>Nat.beq b e.2.2)) (L.toList.filter fun e=>!(seen.any fun b=>Nat.beq b e.born)):=fN.filter (p:=fun n=>!(seen.any fun b=>Nat.beq b n)) hL
  have hold:fN G st w ((es.filter fun e=>!(seen.any fun b=>Nat.beq b e.2.2)).filter fun e=>Nat.blt e.2.2 since) ((L.toList.filter fun e=>!(seen.any fun b=>Nat.beq b e.born)).filter fun e=>Nat.blt e.born since):=fN.filter (p:=fun n=>Nat.blt n since) hleft
  have hnew:fN G st w ((es.filter fun e=>!(seen.any fun b=>Nat.beq b e.2.2)).filter fun e=>Nat.ble since e.2.2) ((L.toList.filter fun e=>!(seen.any fun b=>Nat.beq b e.born)).filter fun e=>Nat.ble since e.born):=fN.filter (p:=fun n=>Nat.ble since n) hleft
  have hall:=fN.append hold hnew
  generalize hO:((es.filter fun e=>!(seen.any fun b=>Nat.beq b e.2.2)).filter fun e=>Nat.blt e.2.2 since)=O at h hold hall
  generalize hN:((es.filter fun e=>!(seen.any fun b=>Nat.beq b e.2.2)).filter fun e=>Nat.ble since e.2.2)=N at h hnew hall
  have mO:((L.filter fun e=>!seen.toArray.contains e.born).filter fun e=>decide (e.born<since)).toList=(L.toList.filter fun e=>!(seen.any fun b=>Nat.beq b e.born)).filter fun e=>Nat.blt e.born since:=by
   rw[vM,vM]
   congr 1
   ·funext e
    rw[Bool.eq_iff_iff,decide_eq_true_eq]
    exact⟨fun h=>Nat.ble_eq_true_of_le h,fun h=>Nat.le_of_ble_eq_true h⟩
   ·congr 1
    funext e
    rw[seenp]
  have mN:((L.filter fun e=>!seen.toArray.contains e.born).filter fun e=>decide (e.born≥since)).toList=(L.toList.filter fun e=>!(seen.any fun b=>Nat.beq b e.born)).filter fun e=>Nat.ble since e.born:=by
   rw[vM,vM]
   congr 1
   ·funext e
    rw[Bool.eq_iff_iff,decide_eq_true_eq]
    exact⟨fun h=>Nat.ble_eq_true_of_le h,fun h=>Nat.le_of_ble_eq_true h⟩
   ·congr 1
    funext e
    rw[seenp]
  generalize hMO:((L.filter fun e=>!seen.toArray.contains e.born).filter fun e=>decide (e.born<since))=MO at mO
  generalize hMN:((L.filter fun e=>!seen.toArray.contains e.born).filter fun e=>decide (e.born≥since))=MN at mN
  rw[← mO] at hold hall
  rw[← mN] at hall
  let cand:Array (Option MapEntry):=(if MO.isEmpty then #[none] else #[]) ++ (MO ++ MN).map some
  have hrun : ∀ (k : Nat) (w1 : World), (choose (.mapNext cand.size)).run P w = .ok k w1 → w1.heap = w.heap →
   (Instr.next (.pointer (some ⟨b,0,none⟩)) false ty).run P w=(match cand[k]? with
    | some (some e)=>(do
     setObj b (.mapIter (some mb) since (seen.toArray.push e.born) clock)
     pure (.tuple #[.bool true,e.key,e.val]):Sem Value).run P w1
    | some none=>.ok (.tuple #[.bool false]) w1
    | none=>(stuck "Next: no such candidate":Sem Value).run P w1):=by
   intro k w1 hk hw1
   unfold Instr.next
   simp only[Sem.run_bind,gZ ho trivial,Result.andThen_ok,gZ ho' trivial,guard,Bool.false_eq_true,if_false,hMO,hMN]
   show Result.andThen ((choose (.mapNext cand.size)).run P w) _=_
   rw[hk,Result.andThen_ok]
   cases hc:cand[k]? with
   | none=>rfl
   | some o=>cases o <;> simp
  have hcs:cand.toList=(if MO.isEmpty then [none] else []) ++ (MO.toList ++ MN.toList).map some:=by
   simp only[cand]
   split <;> simp
  have hpos:0<cand.size:=by
   rw[← Array.length_toList,hcs]
   by_cases he:MO.isEmpty=true
   ·simp[he]
   ·have:MO.size≠0:=by simpa[Array.isEmpty] using he
    simp[he]
    omega
  have hchoose:∃ k w1,(choose (.mapNext cand.size)).run P w=.ok k w1∧k<cand.size∧(w1=w∨w1=w.drew):=by
   by_cases h1:cand.size≤1
   ·exact⟨0,w,by simp[choose,Sem.run,Question.forced,h1],hpos,.inl rfl⟩
   ·refine⟨(w.tape w.drawn (.mapNext cand.size)) % cand.size,w.drew,?_,Nat.mod_lt _ hpos,.inr rfl⟩
    have hnf:(Question.mapNext cand.size).forced=false:=by simp[Question.forced]; omega
    simp only[choose,Sem.run,hnf,Bool.false_eq_true,if_false,Question.cut]
    rfl
  obtain⟨k,w1,c1,c2,c3⟩:=hchoose
  have I1:Inv W0 G st w1:=by rcases c3 with rfl | rfl; exact I; exact I.drew
  have L1:Le G st w G st w1:=by rcases c3 with rfl | rfl; exact Le.refl _ _ _; exact Le.drew
  have hh1:w1.heap=w.heap:=by rcases c3 with rfl | rfl <;> rfl
  have hr:=hrun k w1 c1 hh1
  have hck:cand[k]? =cand.toList[k]? :=by simp
  have hoe:O.isEmpty=MO.isEmpty:=by
   have:=hold.length
   simp only[Array.length_toList] at this
   cases O with
   | nil=>simp at this; simp[this]
   | cons _ _=>simp at this ⊢; intro e; rw[e] at this; simp at this
  rw[hck,hcs] at hr
  have hk2:k<((if MO.isEmpty then [none] else []) ++ (MO.toList ++ MN.toList).map some:List (Option MapEntry)).length:=by rw[← hcs]; simpa using c2
  have step:∀(j:Nat) (e:AV×AV×Nat),(O ++ N)[j]? =some e→((if MO.isEmpty then [none] else []) ++ (MO.toList ++ MN.toList).map some:List (Option MapEntry))[k]? =((MO.toList ++ MN.toList)[j]?).map some →
   ∃ r' w' G',(Instr.next (.pointer (some ⟨b,0,none⟩)) false ty).run P w=.ok r' w'∧Le G st w G' (st.put r (.iter (some m) since (seen ++ [e.2.2]) clock)) w'∧sE G st G' (st.put r (.iter (some m) since (seen ++ [e.2.2]) clock))∧Inv W0 G' (st.put r (.iter (some m) since (seen ++ [e.2.2]) clock)) w'∧aV G' (st.put r (.iter (some m) since (seen ++ [e.2.2]) clock)) w' (.tuple [.bool true,e.1,e.2.1]) r':=by
   intro j e he hj
   obtain⟨me,m1,m2,m3,m4⟩:=hall.get he
   rw[m1] at hj
   rw[hj] at hr
   simp only[Option.map_some] at hr
   have hO':oX G st w1 (.iter (some m) since (seen ++ [e.2.2]) clock) (.mapIter (some mb) since (seen.toArray.push me.born) clock):=⟨mb,k1,n1,by rw[m4]; simp,hmb⟩
   obtain⟨h1,h2,h3⟩:=qI (o0:=.mapIter (some mb) since seen.toArray last) I1 hb hget rfl hO'
   have hob:w1.heap[b]? =some (.mapIter (some mb) since seen.toArray last):=by rw[hh1]; exact ho
   refine⟨.tuple #[.bool true,me.key,me.val],_,G,?_,L1.trans h1,h2,h3,?_⟩
   ·rw[hr]
    simp only[Sem.run_bind,r9 hob trivial,Result.andThen_ok,Sem.run_pure]
   ·have L2:=L1.trans h1
    simp only[aV]
    exact⟨_,rfl,aT.cons (by simp only[aV]) (aT.cons (aV.mono L2 _ _ m2) (aT.cons (aV.mono L2 _ _ m3) aT.nil))⟩
  by_cases he:MO.isEmpty=true
  ·rw[he] at hoe
   simp only[he,if_true] at hr hk2 step
   cases k with
   | zero =>
     simp at hr
     refine⟨(.tuple [.bool false],st),by rw[← h,hoe]; simp,_,w1,G,hr,L1,sE.refl _ _,I1,aV.mono L1 _ _ over⟩
   | succ j =>
     have hjl:j<(O ++ N).length:=by
      have:=hall.length
      simp only[List.length_append,Array.length_toList] at this hk2 ⊢
      simp at hk2
      omega
     have hget':(O ++ N)[j]? =some (O ++ N)[j]:=by simp[hjl]
     have:=step j _ hget' (by rw[List.cons_append,List.nil_append,List.getElem?_cons_succ,List.getElem?_map])
     refine⟨(.tuple [.bool true,(O ++ N)[j].1,(O ++ N)[j].2.1],st.put r (.iter (some m) since (seen ++ [(O ++ N)[j].2.2]) clock)),?_,this⟩
     rw[← h]
     refine List.mem_append_right _ (List.mem_map.2 ⟨(O ++ N)[j],List.getElem_mem _,rfl⟩)
  ·have he':MO.isEmpty=false:=by simpa using he
   simp only[he',Bool.false_eq_true,if_false,List.nil_append] at hr hk2 step
   have hjl:k<(O ++ N).length:=by
    have:=hall.length
    simp only[List.length_append,Array.length_toList] at this ⊢
    simp at hk2
    omega
   have hget':(O ++ N)[k]? =some (O ++ N)[k]:=by simp[hjl]
   have:=step k _ hget' (List.getElem?_map ..)
   refine⟨(.tuple [.bool true,(O ++ N)[k].1,(O ++ N)[k].2.1],st.put r (.iter (some m) since (seen ++ [(O ++ N)[k].2.2]) clock)),?_,this⟩
   rw[← h]
   refine List.mem_append_right _ (List.mem_map.2 ⟨(O ++ N)[k],List.getElem_mem _,rfl⟩)
 ·cases h
end
end Go.Ev
end
section
set_option linter.all false
namespace Go.Ev
open Go.RowKit (Below)
section
variable {P:Program}{W0:World}{G:Gh}{st:St}{w:World}
theorem IL {d:AV}{u:Value}{n:Nat}(hd:aV G st w d u)(h:lenOf d=some n):∃ b c,u=.slice b n c:=by
 cases d <;> simp only[lenOf,Option.some.injEq] at h <;> first | (cases h; done) | skip
 all_goals
  subst h
  simp only[aV] at hd
 ·exact⟨_,_,hd⟩
 ·obtain⟨b,off,c,m,n,rfl,_⟩:=hd; exact⟨_,_,rfl⟩
 ·obtain⟨b,k,n,c,_,rfl,_⟩:=hd; exact⟨_,_,rfl⟩
 ·obtain⟨b,off,c,rfl⟩:=hd; exact⟨_,_,rfl⟩
 ·obtain⟨rfl,_⟩:=hd; exact⟨_,_,rfl⟩
theorem JZ (I : Inv W0 G st w) {ats : Array TypeId} {ty : TypeId} {d s v : AV} {ud us : Value} {st' : St} (hd : aV G st w d ud) (hs : aV G st w s us) (h : J7 P st ats d s = some (v, st')) :
 ∃ r w',(Builtin.copy_ ats ty #[ud,us]).run P w=.ok r w'∧Le G st w G st' w'∧sE G st G st'∧Inv W0 G st' w'∧aV G st' w' v r:=by
 unfold J7 at h
 split at h
 rotate_left
 ·cases h
 rename_i t t' hats
 have hats:ats= #[t,t']:=by apply Array.ext'; simpa using hats
 subst hats
 simp only[Option.bind_eq_some_iff] at h
 obtain⟨td,htd,h⟩:=h
 split at h
 rotate_left
 ·cases h
 rename_i e
 simp only[Option.bind_eq_some_iff] at h
 obtain⟨sz,hsz,dn,hdn,sn,hsn,cs,hcs,h⟩:=h
 have main:∀(hone:cs.all AV.one=true),∃ nvs,(∀ w':World,(Builtin.lenOf us).run P w'=.ok sn w')∧(Builtin.firstCells sz (min sn dn) us).run P w=.ok nvs.toArray w∧aT G st w cs nvs∧cs.length=min sn dn * sz:=by
  intro hone
  obtain⟨nvs,m,_,h2,h3,h4,_,_,_,h8,h9⟩:=Cb (P:=P) I htd hs hcs ⟨sn,hsn,Nat.min_le_left _ _⟩ hone
  rw[hsn] at h2
  injection h2 with h2
  subst h2
  exact⟨nvs,h3,h4,h8,h9⟩
 have start:∀(base:Option Addr) (c:Nat) (nvs:List Value),ud=.slice base dn c→(∀ w':World,(Builtin.lenOf us).run P w'=.ok sn w')→(Builtin.firstCells sz (min sn dn) us).run P w=.ok nvs.toArray w →
  (Builtin.copy_ #[t,t'] ty #[ud,us]).run P w=(do
   if let some a:=base then storeCells a nvs
   pure (goInt ((min sn dn:Nat):Int)):Sem Value).run P w:=by
  rintro base c nvs rfl h1 h2
  unfold Builtin.copy_
  simp only[List.getElem?_toArray,List.getElem?_cons_zero,List.getElem?_cons_succ,Sem.run_bind,run_underlying htd,Result.andThen_ok,gQ hsz,h1,Sem.run_pure]
  have h2':(Builtin.firstCells sz (sn.min dn) us).run P w=.ok nvs.toArray w:=h2
  rw[h2',Result.andThen_ok]
  cases base <;> rfl
 split at h
 ·rename_i id off len sz' cap
  have h0:=b7 h
  clear h
  obtain⟨hq,h⟩:=h0
  simp only[Bool.and_eq_true] at hq
  simp only[Option.bind_eq_some_iff] at h
  obtain⟨st1,hst1,h⟩:=h
  injection h with h; injection h with e1 e2; subst e1; subst e2
  obtain⟨nvs,h1,h2,h3,h4⟩:=main hq.2
  simp only[lenOf,Option.some.injEq] at hdn
  subst hdn
  simp only[aV] at hd
  obtain⟨b,k0,n0,c,x1,rfl,_⟩:=hd
  have hp:aV G st w (.ref id off) (.pointer (some ⟨b,off,none⟩)):=by simp only[aV]; exact⟨b,k0,n0,x1,rfl⟩
  obtain⟨b',off',w',e1,s1,s2,s3,s4⟩:=zL (P:=P) I hp h3 hq.2 hst1
  injection e1 with e1; injection e1 with e1; injection e1 with e1 e2
  subst e1; subst e2
  refine⟨goInt ((min sn len:Nat):Int),w',?_,s2,s3,s4,by simp only[aV,goInt]⟩
  rw[start (some ⟨b,off,none⟩) c nvs rfl h1 h2]
  simp[s1]
 ·have h0:=b7 h
  clear h
  obtain⟨hq,h⟩:=h0
  injection h with h; injection h with e1 e2; subst e1; subst e2
  have hz:=Nat.eq_of_beq_eq_true hq
  have hcn:cs=[]:=by
   unfold qH at hcs
   split at hcs
   ·simp only[Option.bind_eq_some_iff] at hcs
    obtain⟨d',_,hcs⟩:=hcs
    split at hcs
    ·obtain⟨_,hcs⟩:=b7 hcs
     injection hcs with hcs
     rw[← hcs,hz]
     simp
    ·cases hcs
   ·obtain⟨_,hcs⟩:=b7 hcs
    rw[hz] at hcs
    unfold eD at hcs
    split at hcs
    ·obtain⟨_,hcs⟩:=b7 hcs; injection hcs with hcs; exact hcs.symm
    ·obtain⟨_,hcs⟩:=b7 hcs; injection hcs with hcs; exact hcs.symm
    ·have h0:=b7 hcs; obtain⟨_,h⟩:=h0; obtain⟨_,rfl⟩:=qX h; simp
    ·split at hcs
     ·have h0:=b7 hcs; obtain⟨_,h⟩:=h0; obtain⟨_,rfl⟩:=qX h; simp
     ·cases hcs
    ·obtain⟨_,hcs⟩:=b7 hcs
     rw[Nat.zero_mul] at hcs
     simp only[tW,Option.some.injEq] at hcs
     exact hcs.symm
    ·cases hcs
  obtain⟨nvs,h1,h2,h3,h4⟩:=main (by rw[hcn]; rfl)
  obtain⟨base,c,rfl⟩:=IL hd hdn
  have hnv:nvs=[]:=by rw[hcn] at h3; exact h3.hT
  subst hnv
  refine⟨goInt ((min sn dn:Nat):Int),w,?_,Le.refl _ _ _,sE.refl _ _,I,by simp only[aV,goInt,hz]; rfl⟩
  rw[start base c [] rfl h1 h2]
  cases base <;> simp[storeCells]
theorem Hl (I : Inv W0 G st w) {ats : Array TypeId} {ty t : TypeId} {x : AV} {u : Value} {st' : St} (hat : ats[0]? = some t) (hx : aV G st w x u) (h : H4 P st t x = some st') :
 ∃ w',(Builtin.clear_ ats ty #[u]).run P w=.ok (.tuple #[]) w'∧Le G st w G st' w'∧sE G st G st'∧Inv W0 G st' w':=by
 simp only[H4,Option.bind_eq_some_iff] at h
 obtain⟨d,hd,h⟩:=h
 unfold Builtin.clear_
 simp only[hat,List.getElem?_toArray,List.getElem?_cons_zero,Sem.run_bind,run_underlying hd,Result.andThen_ok]
 split at h
 ·injection h with h; subst h
  simp only[aV] at hx; subst hx
  exact⟨w,by simp,Le.refl _ _ _,sE.refl _ _,I⟩
 ·injection h with h; subst h
  simp only[aV] at hx; subst hx
  exact⟨w,by simp,Le.refl _ _ _,sE.refl _ _,I⟩
 ·rename_i id
  split at h
  ·rename_i es c hget
   injection h with h; subst h
   simp only[aV] at hx
   obtain⟨b,k0,n0,hb,rfl⟩:=hx
   obtain⟨o,ho,l,rfl,hl⟩:=I.pL id b k0 n0 _ hb hget rfl
   have hO:oX G st w (.map [] c) (.map #[] c):=⟨#[],rfl,rfl⟩
   refine⟨_,?_,qI (o0:=.map l c) I hb hget rfl hO⟩
   simp[gZ ho trivial,r9 ho trivial]
  ·cases h
 ·rename_i e id off n sz cap
  simp only[Option.bind_eq_some_iff] at h
  obtain⟨sz',hsz,z,hz,h⟩:=h
  have h0:=b7 h
  clear h
  obtain⟨hq,h⟩:=h0
  simp only[Bool.and_eq_true] at hq
  have hs:sz=sz':=Nat.eq_of_beq_eq_true hq.1.1
  subst hs
  have hzl:=Nat.eq_of_beq_eq_true hq.1.2
  obtain⟨zv,z1,z2,_⟩:=rT (G:=G) (st:=st) hz w
  simp only[aV] at hx
  obtain⟨b,k0,n0,c,x1,rfl,x3,x4,x5,x6⟩:=hx
  cases hn:Nat.beq n 0 with
  | true =>
    rw[hn] at h
    injection h with h; subst h
    have:=Nat.eq_of_beq_eq_true hn
    subst this
    exact⟨w,by simp,Le.refl _ _ _,sE.refl _ _,I⟩
  | false =>
    rw[hn] at h
    simp only[cond_false] at h
    have hn0:n≠0:=by rintro rfl; simp at hn
    have hp:aV G st w (.ref id off) (.pointer (some ⟨b,off,none⟩)):=by simp only[aV]; exact⟨b,k0,n0,x1,rfl⟩
    have hrep:=Be z2.cells n
    have hzc:=z2.cells.length
    simp only[Array.length_toList] at hzc
    have hone:(cW z.cells n).all AV.one=true:=by
     have:∀ n,(cW z.cells n).all AV.one=true:=fun n=>by
      induction n with
      | zero=>rfl
      | succ n ih=>simp only[cW,List.all_append,hq.2,ih,Bool.and_self]
     exact this n
    obtain⟨b',off',w',e1,s1,s2,s3,s4⟩:=zL (P:=P) I hp hrep hone h
    injection e1 with e1; injection e1 with e1; injection e1 with e1 e2
    subst e1; subst e2
    refine⟨w',?_,s2,s3,s4⟩
    have hzz:(Builtin.zeroCells zv.cells n).toList=(madeCells zv.cells (n * zv.cells.size)).toList:=by
     simp[Builtin.zeroCells,madeCells]
    have s1':(storeCells ⟨b,off,none⟩ (Builtin.zeroCells zv.cells n).toList).run P w=.ok () w':=by rw[hzz]; exact s1
    obtain⟨n',rfl⟩:∃ n',n=n'+1:=⟨n - 1,by omega⟩
    simp[z1,s1']
 ·rename_i _ e _ n _ _ _
  have h0:=b7 h
  clear h
  obtain⟨hq,h⟩:=h0
  injection h with h; subst h
  have:=Nat.eq_of_beq_eq_true hq
  subst this
  simp only[aV] at hx
  obtain⟨b,off,c,m,n,rfl,_⟩:=hx
  exact⟨w,by simp,Le.refl _ _ _,sE.refl _ _,I⟩
 ·cases h
theorem Db (w:World)(a:Addr)(n b:Nat)(h:b≠a.block):(w.freeze a n).heap[b]? =w.heap[b]? :=by
 unfold World.freeze
 split
 ·rfl
 ·simp only[Array.getElem?_modify]
  rw[if_neg (by omega)]
theorem Hz (w:World)(a:Addr)(n:Nat):(w.freeze a n).heap.size=w.heap.size:=by
 unfold World.freeze
 split <;> simp
theorem Le.freeze (I:Inv W0 G st w){id b k n:Nat}(hb:G.β id=some (b,k,n))(m:Nat):Le G st w G (st.put id .dead) (w.freeze ⟨b,0,none⟩ m) where
 β i b hb:=hb
 ext b i m n h:=⟨m,Nat.le_refl _,h⟩
 cell b' i m n j h _:=World.cell?_of_block (w:=w) (Db w _ _ b' (by
  rintro rfl
  rw[I.vJ id _ _ _ hb] at h
  cases h))
 nE i h hh hx:=⟨h,Nat.le_refl _,by
  obtain⟨b',m,n,hx⟩:=hx
  simp only[St.put,Tr.bP]
  rw[if_neg (by rintro rfl; have:=(I.Ac b' i m n hx).2.2.2.2.1; rw[hb] at this; cases this)]
  exact hh,fun _ _ _ _ k=>k⟩
 next:=Nat.le_refl _
theorem Bk (I : Inv W0 G st w) {ats : Array TypeId} {ty : TypeId} {p v : AV} {u : Value} {n : Int} {st' : St} (hp : aV G st w p u) (h : xA P st ats p n = some (v, st')) :
 ∃ r w',(Builtin.unsafeString_ ats ty #[u,.int .i64 n]).run P w=.ok r w'∧Le G st w G st' w'∧sE G st G st'∧Inv W0 G st' w'∧aV G st' w' v r:=by
 unfold xA at h
 split at h
 rotate_left
 ·cases h
 rename_i pt it hats
 have hats:ats= #[pt,it]:=by apply Array.ext'; simpa using hats
 subst hats
 cases hn:n == 0 with
 | true =>
   rw[hn] at h
   have hn0:n=0:=by simpa using hn
   subst hn0
   simp only[cond_true] at h
   have he:aV G st w (.str []) (.string .empty):=by simp only[aV]; rfl
   split at h
   ·injection h with h; injection h with e1 e2; subst e1; subst e2
    simp only[aV] at hp; subst hp
    exact⟨_,w,Go.Lib.run_unsafeString_none w pt it ty none,Le.refl _ _ _,sE.refl _ _,I,he⟩
   ·injection h with h; injection h with e1 e2; subst e1; subst e2
    simp only[aV] at hp
    obtain⟨b,k,n,_,rfl⟩:=hp
    exact⟨_,w,Go.Lib.run_unsafeString_none w pt it ty _,Le.refl _ _ _,sE.refl _ _,I,he⟩
   ·cases h
 | false =>
   rw[hn] at h
   simp only[cond_false] at h
   split at h
   rotate_left
   ·cases h
   rename_i id
   split at h
   rotate_left
   ·cases h
   rename_i e uf cs hget
   simp only[Option.bind_eq_some_iff] at h
   obtain⟨d,hd,h⟩:=h
   split at h
   rotate_left
   ·cases h
   rename_i u'
   have h0:=b7 h
   clear h
   obtain⟨hq,h⟩:=h0
   simp only[Bool.and_eq_true,decide_eq_true_eq] at hq
   obtain⟨⟨⟨⟨q1,q2⟩,q3⟩,q4⟩,q5⟩:=hq
   have q1:=Nat.eq_of_beq_eq_true q1
   have q2:=Nat.eq_of_beq_eq_true q2
   have q3:=Nat.le_of_ble_eq_true q3
   have q4:=Nat.le_of_ble_eq_true q4
   subst q1
   simp only[Option.bind_eq_some_iff] at h
   obtain⟨s,hs,h⟩:=h
   have h0:=b7 h
   clear h
   obtain⟨hl,h⟩:=h0
   have hl:s.length=n.toNat:=by simpa using hl
   injection h with h; injection h with e1 e2; subst e1; subst e2
   simp only[aV] at hp
   obtain⟨b,k,N,hb,rfl⟩:=hp
   obtain⟨k1,k2,k3,k4,k5,k6⟩:=I.nI id b k N _ uf cs hb hget
   obtain⟨vs,v1,v2,v3⟩:=(k1.take n.toNat).values
   obtain⟨ns,hns,hls⟩:=Ai hs v1
   have hm:iL=1073741824:=rfl
   have hlen:ns.length=n.toNat:=by have:=congrArg List.length hls; rw[List.length_map] at this; omega
   have hcell:∀(j:Nat) x,s[j]? =some x→w.cell? ((⟨b,0,none⟩:Addr).add j)=some (.int .u8 x.toNat)∨True:=fun _ _ _=>.inr trivial
   have hrun : (Builtin.unsafeString_ #[pt, it] ty #[.pointer (some ⟨b, 0, none⟩), .int .i64 n]).run P w = .ok (.string ⟨s.toArray⟩) (w.freeze ⟨b, 0, none⟩ n.toNat) := by
    have hneg:¬ n<0:=by omega
    have hmax:¬ n>IntKind.i64.max:=by
     have:IntKind.i64.max=9223372036854775807:=rfl
     omega
    have hnz:¬ n=0:=by omega
    have hlies:liesAt P P.depth u' (N / P.cellsOf u') 0 u' n.toNat=true:=Go.Lib.liesAt_bytes q2 _ _ (by rw[q2]; simp; omega)
    have hlb:∀(ns:List Int) (vs:List Value) (a:Addr) (acc:ByteArray),vs=ns.map (Value.int .u8)→(∀(j:Nat) v,vs[j]? =some v→w.cell? (a.add j)=some v) →
     (loadBytes a acc ns.length).run P w=.ok ⟨acc.data ++ (ns.map fun n=>UInt8.ofNat n.toNat).toArray⟩ w:=by
     intro ns
     induction ns with
     | nil=>intro vs a acc _ _; simp[loadBytes]
     | cons x ns ih =>
       rintro vs a acc rfl hc
       have h0:w.cell? a=some (.int .u8 x):=by
            have:=hc 0 (.int .u8 x) (by simp)
            simpa[Addr.add] using this
       have:=ih (ns.map (Value.int .u8)) (a.add 1) (acc.push (x.toNat.toUInt8)) rfl (fun j v hv=>by
            have:=hc (j+1) v (by simpa using hv)
            have e:(a.add 1).add j=a.add (j+1):=by
             unfold Addr.add
             by_cases hj:j=0
             ·subst hj; simp
             ·simp[hj]; omega
            rw[e]; exact this)
       simp only[List.length_cons,loadBytes,Sem.run_bind,run_load,h0,Result.andThen]
       rw[this]
       congr 1
       apply ByteArray.ext
       simp[ByteArray.push]
    have hlb':=hlb ns vs ⟨b,0,none⟩ .empty hns (fun j v hv=>by rw[iD]; exact v3 j v hv)
    rw[hlen,hls] at hlb'
    have hdef:Builtin.unsafeString_ #[pt,it] ty #[.pointer (some ⟨b,0,none⟩),.int .i64 n] =
     (do
            let n ← asInt (.int .i64 n)
            if n<0 then runtimePanic (.error "unsafe.String: len out of range")
            if n>IntKind.i64.max then unsupported (.unsafePointer "String: a length above the largest int")
            if n=0 then pure (.string .empty)
            else if ← variablesAt ⟨b,0,none⟩ (← elemOf pt) n.toNat then do
             let s ← loadBytes ⟨b,0,none⟩ .empty n.toNat
             freeze ⟨b,0,none⟩ n.toNat
             pure (.string s)
            else unsupported (.unsafePointer "String: not so many bytes at ptr")):=rfl
    rw[hdef]
    have h63:n≤9223372036854775807:=by omega
    simp[asInt,asIntOf,hneg,hnz,variablesAt,k5,elemOf,run_underlying hd,hlies,hlb',h63]
   have L:=Le.freeze I hb n.toNat
   refine⟨_,_,hrun,L,sE.put (by intro hu; rw[hu.1] at hb; cases hb),?_,by simp only[aV]⟩
   exact I.JO hb hget (by intro e; cases e) (Hz _ _ _) (Go.Lib.below_freeze I.below (I.blt _ _ _ _ hb).1 _) (fun b' h=>Db w _ _ b' h) L (fun t u cs e=>by cases e) (fun e=>by cases e)
theorem Dm (I:Inv W0 G st w){s d e:TypeId}{v:AV}{u:Value}{n:Nat}{cs:List AV}{l:List UInt8}(hs:P.underlying s=some (.slice e))(hd:P.underlying d=some .string)(he:P.underlying e=some (.int .u8))(hr:aV G st w v u)
 (hn:lenOf v=some n) (hcs:eD st n v 1=some cs) (hl:bytesOf cs=some l):(convert s d u).run P w=.ok (.string ⟨l.toArray⟩) w:=by
 rcases wH I hr hcs ⟨n,hn,Nat.le_refl _⟩ with⟨hh,rfl,rfl⟩ | ⟨b,off,c,m,vs,hh,hm,_,o1,o2,o3⟩
 ·rw[hh,run_convert_bytes_string w s d e none 0 0 hs he hd]
  simp only[bytesOf] at hl
  injection hl with hl
  subst hl
  rfl
 ·have:m=n:=by rw[hn] at hm; injection hm with hm; exact hm.symm
  subst this
  obtain⟨ns,rfl,rfl⟩:=Ai hl o1
  have hlen:=o1.length
  rw[List.length_map] at hlen
  rw[hh,run_convert_bytes_string w s d e _ m c hs he hd,run_bytesToString w _ m c ns (by
   have:=run_loadCells_list (P:=P) w ⟨b,off,none⟩ (ns.map (Value.int .u8)) o3
   rw[List.length_map,hlen,o2,Nat.mul_one] at this
   exact this),foldl_push_bytes]
  have he0:ByteArray.empty.data= #[]:=rfl
  rw[he0]
  simp
theorem F0 (I:Inv W0 G st w){s d t n:Nat}{id off b k N:Nat}{e:TypeId}{uf:Bool}{cs:List AV}(hs:P.underlying s=some (.pointer t))(hd:P.underlying d=some .unsafePointer)(hn:size? P t=some n)(hn0:n≠0)
 (hb:G.β id=some (b,k,N)) (hget:st.aS.get id=some (.cells e uf cs)) (ho:off<cs.length):(convert s d (.pointer (some ⟨b,off,none⟩))).run P w=.ok (.pointer (some ⟨b,off,none⟩)) w:=by
 obtain⟨k1,k2,k3,k4,k5,k6⟩:=I.nI id b k N e uf cs hb hget
 have hlt:off<N:=by omega
 have hno:¬ off≥N:=by omega
 unfold convert
 simp only[Sem.run_bind,run_underlying hs,run_underlying hd,Result.andThen_ok]
 simp[Conv.unsafePointer,run_underlying hs,run_underlying hd,Conv.seenAt,viewAt,k5,gQ hn,hn0,cellsIn,hno]
theorem DN (I:Inv W0 G st w){s d t n:Nat}{id off b k N:Nat}{e:TypeId}{cs:List AV}(hs:P.underlying s=some .unsafePointer)(hd:P.underlying d=some (.pointer t))(hn:size? P t=some n)(hn0:n≠0)
 (hb:G.β id=some (b,k,N)) (hget:st.aS.get id=some (.cells e true cs)) (hl:liesAt P P.depth e (cs.length / P.cellsOf e) off t 1=true):(convert s d (.pointer (some ⟨b,off,none⟩))).run P w=.ok (.pointer (some ⟨b,off,none⟩)) w:=by
 obtain⟨k1,k2,k3,k4,k5,k6⟩:=I.nI id b k N e true cs hb hget
 have hN:N=cs.length:=by rw[(k4 rfl).1,k2]
 rw[← hN] at hl
 unfold convert
 simp only[Sem.run_bind,run_underlying hs,run_underlying hd,Result.andThen_ok]
 simp[Conv.unsafePointer,run_underlying hs,run_underlying hd,Conv.seenAt,viewAt,k5,gQ hn,hn0,variablesAt,hl]
theorem DK {o:Option Operand}{r:List AV}{A:Option AV×List AV}{a:Act}{us:List Value}(h:DS o r=some A)(hr:aT G st w r (o.toArray.toList.map a.eval ++ us)):uQ G st w A.1 (o.map a.eval)∧aT G st w A.2 us:=by
 cases o with
 | none =>
   simp only[DS] at h
   injection h with h
   subst h
   exact⟨rfl,by simpa using hr⟩
 | some x =>
   cases r with
   | nil=>cases h
   | cons b r =>
     simp only[DS] at h
     injection h with h
     subst h
     have hr':aT G st w (b :: r) (a.eval x :: us):=by simpa using hr
     obtain⟨u,l,e,h1,h2⟩:=hr'.cons_inv
     injection e with e1 e2
     subst e1; subst e2
     exact⟨⟨_,rfl,h1⟩,h2⟩
theorem IE (I : Inv W0 G st w) {t : TypeId} {x : AV} {u : Value} {low high max : Option AV} {low' high' max' : Option Value} {v : AV} (hx : aV G st w x u) (hl : uQ G st w low low') (hh : uQ G st w high high')
 (hm:uQ G st w max max') (h:y8 P st t x low high max=some v):∃ r,(Instr.sliceAt t u low' high' max').run P w=.ok r w∧aV G st w v r:=by
 unfold y8 at h
 split at h
 ·rename_i id off len sz
  split at h
  ·rename_i ty uf cs hcs
   refine Fo hx hl hh hm (fun b k n hb c hc=>?_) h
   have hb':=(I.nI id b k n _ _ cs hb hcs).2.1
   have h6:0<sz:=by
    simp only[aV] at hx
    obtain⟨_,_,_,_,_,_,_,_,_,h6⟩:=hx
    exact h6
   rw[hb']
   have h7:k - off≤c * sz:=by omega
   exact Nat.div_le_of_le_mul (by rw[Nat.mul_comm]; exact h7)
  ·exact Au hx hl hh hm h
  ·cases h
 ·exact Au hx hl hh hm h
theorem DQ (I : Inv W0 G st w) {vs : List AV} {v : AV} {a : Act} {o : Oper} (hvs : aT G st w vs (o.op.operands.toList.map a.eval)) (h : vA P st o.op vs = some v) :
 ∃ r,(execOp a.eval o).run P w=.ok (.value r) w∧aV G st w v r:=by
 have val:∀{s:Sem Value} {r:Value},s.run P w=.ok r w→((do pure (.value (← s)):Sem Next)).run P w=.ok (.value r) w:=fun h=>by simp[h]
 unfold vA at h
 split at h
 ·rename_i t x p ho
  rw[ho] at hvs
  simp only[Op.operands] at hvs
  obtain⟨u,l,e,hp,hn⟩:=hvs.cons_inv
  have e1:u=a.eval x:=by simp at e; exact e.1.symm
  subst e1
  obtain⟨r,r1,r2⟩:=Bt I hp h
  exact⟨r,by simp only[execOp,ho]; exact val r1,r2⟩
 ·rename_i t x y ok m k ho
  rw[ho] at hvs
  simp only[Op.operands] at hvs
  obtain⟨u,l,e,hm,hn⟩:=hvs.cons_inv
  obtain⟨u',l',e',hk,hn⟩:=hn.cons_inv
  subst e'
  have e1:u=a.eval x∧u'=a.eval y:=by simp at e; exact⟨e.1.symm,e.2.1.symm⟩
  obtain⟨rfl,rfl⟩:=e1
  obtain⟨r,r1,r2⟩:=HG I hm hk h
  exact⟨r,by simp only[execOp,ho]; exact val r1,r2⟩
 ·rename_i t x lo hi mx v0 r0 ho
  rw[ho] at hvs
  simp only[Op.operands,Array.toList_append,List.map_append] at hvs
  simp only[Option.bind_eq_some_iff] at h
  obtain⟨A,hA,B,hB,D,hD,h⟩:=h
  have hvs':aT G st w (v0 :: r0) (a.eval x :: ((lo.toArray.toList.map a.eval) ++ ((hi.toArray.toList.map a.eval) ++ (mx.toArray.toList.map a.eval)))):=by simpa using hvs
  obtain⟨u,l,e,hx,hr⟩:=hvs'.cons_inv
  injection e with e1 e2
  subst e1; subst e2
  obtain⟨o1,hr⟩:=DK hA hr
  obtain⟨o2,hr⟩:=DK hB hr
  have hr':aT G st w B.2 ((mx.toArray.toList.map a.eval) ++ []):=by simpa using hr
  obtain⟨o3,_⟩:=DK hD hr'
  obtain⟨r,r1,r2⟩:=IE (P:=P) I hx o1 o2 o3 h
  exact⟨r,by simp only[execOp,ho]; exact val r1,r2⟩
 ·rename_i args ats m ho
  rw[ho] at hvs
  simp only[Op.operands,Call.operands] at hvs
  obtain⟨u,l,e,hm,hn⟩:=hvs.cons_inv
  have hn:=hn.hT
  subst hn
  have hargs:args.map a.eval= #[u]:=by
   apply Array.ext'
   simpa using e
  simp only[Option.bind_eq_some_iff] at h
  obtain⟨t,ht,d,hd,h⟩:=h
  have run:∀{n:Nat},(Builtin.len_ ats o.type #[u]).run P w=.ok (.int .i64 n) w→(execOp a.eval o).run P w=.ok (.value (.int .i64 n)) w:=fun h=>by
   simp[execOp,ho,resolve,invoke,builtin,hargs,h]
  have start:Builtin.len_ ats o.type #[u]=Builtin.len_ ats o.type #[u]:=rfl
  split at h
  ·injection h with h; subst h
   simp only[aV] at hm; subst hm
   refine⟨_,run (n:=0) ?_,by simp only[aV]; rfl⟩
   unfold Builtin.len_
   rw[ht]
   simp only[List.getElem?_toArray,List.getElem?_cons_zero,Sem.run_bind,run_underlying hd,Result.andThen_ok]
   rfl
  ·rename_i id
   split at h
   ·rename_i es c hget
    injection h with h; subst h
    simp only[aV] at hm
    obtain⟨b,k0,n0,hb,rfl⟩:=hm
    obtain⟨ob,ho',L,rfl,hL⟩:=I.pL id b k0 n0 _ hb hget rfl
    have hle:=hL.length
    refine⟨_,run (n:=es.length) ?_,by simp only[aV]⟩
    unfold Builtin.len_
    rw[ht]
    simp only[List.getElem?_toArray,List.getElem?_cons_zero,Sem.run_bind,run_underlying hd,Result.andThen_ok,gZ ho' trivial,Sem.run_pure]
    simp only[Array.length_toList] at hle
    rw[hle]
    rfl
   ·cases h
  ·cases h
 ·rename_i s d x v' ho
  rw[ho] at hvs
  simp only[Op.operands] at hvs
  obtain⟨u,l,e,hr,hn⟩:=hvs.cons_inv
  have e1:u=a.eval x:=by simp at e; exact e.1.symm
  subst e1
  simp only[Option.bind_eq_some_iff] at h
  obtain⟨ss,hs,dd,hd,h⟩:=h
  have fin:∀{r:Value},(convert s d (a.eval x)).run P w=.ok r w→aV G st w v r→ ∃ r,(execOp a.eval o).run P w=.ok (.value r) w∧aV G st w v r:=fun{r} h1 h2=>⟨r,by simp only[execOp,ho]; exact val h1,h2⟩
  split at h
  ·rename_i t
   split at h
   ·injection h with h; subst h
    have hr':=hr
    simp only[aV] at hr
    refine fin (r:=.pointer none) ?_ (by simp only[aV])
    rw[hr]
    unfold convert
    simp only[Sem.run_bind,run_underlying hs,run_underlying hd,Result.andThen_ok]
    simp[Conv.unsafePointer,run_underlying hs,run_underlying hd]
   ·rename_i id off
    split at h
    ·rename_i e uf cs hget
     simp only[Option.bind_eq_some_iff] at h
     obtain⟨n,hn',h⟩:=h
     have h0:=b7 h
     clear h
     obtain⟨hq,h⟩:=h0
     injection h with h; subst h
     simp only[Bool.and_eq_true,Bool.not_eq_true'] at hq
     have hr':=hr
     simp only[aV] at hr
     obtain⟨b,k,N,hb,hu⟩:=hr
     refine fin (r:=.pointer (some ⟨b,off,none⟩)) ?_ (by rw[← hu]; exact hr')
     rw[hu]
     exact F0 I hs hd hn' (by rintro rfl; simp at hq) hb hget (Bh hq.1)
    ·cases h
   ·cases h
  ·rename_i t
   split at h
   ·injection h with h; subst h
    simp only[aV] at hr
    refine fin (r:=.pointer none) ?_ (by simp only[aV])
    rw[hr]
    unfold convert
    simp only[Sem.run_bind,run_underlying hs,run_underlying hd,Result.andThen_ok]
    simp[Conv.unsafePointer,run_underlying hs,run_underlying hd]
   ·rename_i id off
    split at h
    ·rename_i e cs hget
     simp only[Option.bind_eq_some_iff] at h
     obtain⟨n,hn',h⟩:=h
     have h0:=b7 h
     clear h
     obtain⟨hq,h⟩:=h0
     injection h with h; subst h
     simp only[Bool.and_eq_true,Bool.not_eq_true'] at hq
     have hr':=hr
     simp only[aV] at hr
     obtain⟨b,k,N,hb,hu⟩:=hr
     refine fin (r:=.pointer (some ⟨b,off,none⟩)) ?_ (by rw[← hu]; exact hr')
     rw[hu]
     exact DN I hs hd hn' (by rintro rfl; simp at hq) hb hget hq.2
    ·cases h
   ·cases h
  ·rename_i e
   simp only[Option.bind_eq_some_iff] at h
   obtain⟨ed,he,h⟩:=h
   split at h
   ·simp only[Option.bind_eq_some_iff] at h
    obtain⟨n,hn',cs,hcs,l,hl,h⟩:=h
    injection h with h; subst h
    exact fin (Dm I hs hd he hr hn' hcs hl) (by simp only[aV])
   ·cases h
  ·cases h
 ·cases h
theorem find_born : ∀ {es : List (AV × AV × Nat)} {l : List MapEntry} {b : Nat} {e : AV × AV × Nat}, fN G st w es l → (es.find? fun e => Nat.beq e.2.2 b) = some e → ∃ m, (l.find? fun x => x.born == b) = some m ∧ aV G st w e.1 m.key ∧ aV G st w e.2.1 m.val
 | [],l,b,e,_,h=>by cases h
 | (k, v, c) :: es, l, b, e, hl, h => by
   obtain⟨k',v',r,rfl,h1,h2,h3⟩:=hl
   rw[List.find?_cons] at h
   split at h
   ·rename_i hb
    injection h with h; subst h
    have:=Nat.eq_of_beq_eq_true hb
    have hcb:(c == b)=true:=by simpa using this
    exact⟨⟨k',v',c⟩,by rw[List.find?_cons]; simp only[hcb],h1,h2⟩
   ·rename_i hb
    obtain⟨m,m1,m2⟩:=find_born h3 h
    refine⟨m,?_,m2⟩
    rw[List.find?_cons]
    have:(c == b)=false:=by
     have hne:c≠b:=by rintro rfl; simp at hb
     simpa using hne
    simp only[this]
    exact m1
theorem IB (I:Inv W0 G st w){it v:AV}{u:Value}(hx:aV G st w it u)(h:Gt st it=some v):∃ r,(Instr.entry u).run P w=.ok r w∧aV G st w v r:=by
 unfold Gt at h
 split at h
 rotate_left
 ·cases h
 rename_i r
 simp only[aV] at hx
 obtain⟨b,k0,n0,hb,rfl⟩:=hx
 split at h
 rotate_left
 ·cases h
 rename_i m since seen last hget
 simp only[Option.bind_eq_some_iff] at h
 obtain⟨bn,hbn,h⟩:=h
 split at h
 rotate_left
 ·cases h
 rename_i es clock hm
 have h0:=b7 h
 clear h
 obtain⟨hq,h⟩:=h0
 have hcl:=Nat.eq_of_beq_eq_true hq
 subst hcl
 simp only[Option.bind_eq_some_iff] at h
 obtain⟨e,he,h⟩:=h
 injection h with h; subst h
 obtain⟨o,ho,mb,k1,n1,rfl,hmb⟩:=I.pL r b k0 n0 _ hb hget rfl
 obtain⟨o',ho',L,rfl,hL⟩:=I.pL m mb k1 n1 _ hmb hm rfl
 obtain⟨me,m1,m2,m3⟩:=find_born hL he
 refine⟨.tuple #[me.key,me.val],?_,by simp only[aV]; exact⟨_,rfl,aT.cons m2 (aT.cons m3 aT.nil)⟩⟩
 have hback:seen.toArray.back?=some bn:=by simpa using hbn
 have hfind:L.find? (fun x=>x.born == bn)=some me:=by rw[← Array.find?_toList]; exact m1
 unfold Instr.entry
 simp only[Sem.run_bind,gZ ho trivial,Result.andThen_ok,hback,gZ ho' trivial]
 simp[hfind]
theorem Kg {ts:List AV}{a:Act}{args:Array Operand}{x:AV}(hts:aT G st w ts a.tmps.toList)(h:cU ts args.toList=some [x]):∃ u,args.map a.eval= #[u]∧aV G st w x u:=by
 obtain⟨u,l,e,hu,hn⟩:=(aT.cU hts h).cons_inv
 have hn:=hn.hT
 subst hn
 exact⟨u,by apply Array.ext'; simpa using e,hu⟩
theorem KO {ts:List AV}{a:Act}{args:Array Operand}{x y:AV}(hts:aT G st w ts a.tmps.toList)(h:cU ts args.toList=some [x,y]):∃ u v,args.map a.eval= #[u,v]∧aV G st w x u∧aV G st w y v:=by
 obtain⟨u,l,e,hu,hn⟩:=(aT.cU hts h).cons_inv
 obtain⟨v,l',e',hv,hn⟩:=hn.cons_inv
 have hn:=hn.hT
 subst hn; subst e'
 exact⟨u,v,by apply Array.ext'; simpa using e,hu,hv⟩
theorem Hh (I : Inv W0 G st w) {cQ : Bool} {ts : List AV} {a : Act} {o : Oper} {v : AV} {st' : St} (hts : aT G st w ts a.tmps.toList) (h : u9 P cQ ts st o.op = some (v, st')) :
 yZ W0 G st w ((execOp a.eval o).run P w) v st':=by
 unfold u9 at h
 split at h
 case h_1 t x y hop=>
  simp only[Option.bind_eq_some_iff] at h
  obtain⟨p,hp,u,hu,st1,h1,h⟩:=h
  injection h with h; injection h with e1 e2; subst e1; subst e2
  obtain⟨w',k1,k2,k3,k4⟩:=IV I (aV.cH hts hp) (aV.cH hts hu) h1
  exact⟨.skip,Go.undef,w',G,by simp[execOp,hop,k1],.inr ⟨rfl,rfl⟩,k2,k3,k4,aV.undef⟩
 case h_2 args ats hop=>
  simp only[Option.bind_eq_some_iff] at h
  obtain⟨vs,hvs,h⟩:=h
  split at h
  ·obtain⟨us,ux,hargs,hs,hx⟩:=KO hts hvs
   obtain⟨r,w',G',k1,k2,k3,k4,k5⟩:=HH (ty:=o.type) I hs hx h
   exact⟨_,r,w',G',by simp[execOp,hop,resolve,invoke,builtin,hargs,k1],.inl rfl,k2,k3,k4,k5⟩
  ·cases h
 case h_3 t x k y hop=>
  simp only[Option.bind_eq_some_iff] at h
  obtain⟨m,hm,k',hk,u,hu,st1,h1,h⟩:=h
  injection h with h; injection h with e1 e2; subst e1; subst e2
  obtain⟨w',k1,k2,k3,k4⟩:=CZ I (aV.cH hts hm) (aV.cH hts hk) (aV.cH hts hu) h1
  exact⟨.skip,Go.undef,w',G,by simp[execOp,hop,k1],.inr ⟨rfl,rfl⟩,k2,k3,k4,aV.undef⟩
 case h_4 t x k y hop=>
  simp only[Option.bind_eq_some_iff] at h
  obtain⟨m,hm,k',hk,u,hu,st1,h1,h⟩:=h
  injection h with h; injection h with e1 e2; subst e1; subst e2
  obtain⟨w',k1,k2,k3,k4⟩:=CZ I (aV.cH hts hm) (aV.cH hts hk) (aV.cH hts hu) h1
  exact⟨.skip,Go.undef,w',G,by simp[execOp,hop,k1],.inr ⟨rfl,rfl⟩,k2,k3,k4,aV.undef⟩
 case h_5 t x hop=>
  simp only[Option.bind_eq_some_iff] at h
  obtain⟨u,hu,h⟩:=h
  obtain⟨r,w',G',k1,k2,k3,k4,k5⟩:=HY I (aV.cH hts hu) h
  exact⟨_,r,w',G',by simp[execOp,hop,k1],.inl rfl,k2,k3,k4,k5⟩
 case h_6 x hop=>
  simp only[Option.bind_eq_some_iff] at h
  obtain⟨u,hu,v',hv,h⟩:=h
  injection h with h; injection h with e1 e2; subst e1; subst e2
  obtain⟨r,r1,r2⟩:=IB (P:=P) I (aV.cH hts hu) hv
  exact yZ.value (v:=r) (by simp[execOp,hop,r1]) I r2
 case h_7 args ats hop=>
  simp only[Option.bind_eq_some_iff] at h
  obtain⟨vs,hvs,h⟩:=h
  split at h
  ·obtain⟨um,uk,hargs,hm,hk⟩:=KO hts hvs
   simp only[Option.bind_eq_some_iff] at h
   obtain⟨t,ht,st1,h1,h⟩:=h
   injection h with h; injection h with e1 e2; subst e1; subst e2
   obtain⟨w',k1,k2,k3,k4⟩:=HA (ty:=o.type) I ht hm hk h1
   exact⟨_,.tuple #[],w',G,by simp[execOp,hop,resolve,invoke,builtin,hargs,k1],.inl rfl,k2,k3,k4,by simp only[aV]; exact⟨_,rfl,aT.nil⟩⟩
  ·cases h
 case h_8 args ats hop=>
  simp only[Option.bind_eq_some_iff] at h
  obtain⟨vs,hvs,h⟩:=h
  split at h
  ·obtain⟨ux,hargs,hx⟩:=Kg hts hvs
   simp only[Option.bind_eq_some_iff] at h
   obtain⟨t,ht,st1,h1,h⟩:=h
   injection h with h; injection h with e1 e2; subst e1; subst e2
   obtain⟨w',k1,k2,k3,k4⟩:=Hl (ty:=o.type) I ht hx h1
   exact⟨_,.tuple #[],w',G,by simp[execOp,hop,resolve,invoke,builtin,hargs,k1],.inl rfl,k2,k3,k4,by simp only[aV]; exact⟨_,rfl,aT.nil⟩⟩
  ·cases h
 case h_9 args ats hop=>
  simp only[Option.bind_eq_some_iff] at h
  obtain⟨vs,hvs,h⟩:=h
  split at h
  ·obtain⟨ud,us,hargs,hd,hs⟩:=KO hts hvs
   obtain⟨r,w',k1,k2,k3,k4,k5⟩:=JZ (ty:=o.type) I hd hs h
   exact⟨_,r,w',G,by simp[execOp,hop,resolve,invoke,builtin,hargs,k1],.inl rfl,k2,k3,k4,k5⟩
  ·cases h
 case h_10 args ats hop=>
  simp only[Option.bind_eq_some_iff] at h
  obtain⟨vs,hvs,h⟩:=h
  split at h
  ·obtain⟨ux,hargs,hx⟩:=Kg hts hvs
   injection h with h; injection h with e1 e2; subst e1; subst e2
   simp only[aV] at hx; subst hx
   exact yZ.value (v:=.pointer none) (by simp[execOp,hop,resolve,invoke,builtin,hargs,Go.Lib.run_unsafeSliceData_nil]) I (by simp only[aV])
  ·rename_i id off len sz cap
   obtain⟨ux,hargs,hx⟩:=Kg hts hvs
   have h0:=fK h
   clear h
   obtain⟨hq,h⟩:=h0
   injection h with h; injection h with e1 e2; subst e1; subst e2
   simp only[aV] at hx
   obtain⟨b,k0,n0,c,x1,rfl,x3,_⟩:=hx
   have hc:c≠0:=by
    rintro rfl
    have:_=0:=Nat.le_zero.1 x3
    rw[this] at hq
    simp at hq
   exact yZ.value (v:=.pointer (some ⟨b,off,none⟩)) (by simp[execOp,hop,resolve,invoke,builtin,hargs,Go.Lib.run_unsafeSliceData_row _ _ _ _ _ _ hc]) I (by simp only[aV]; exact⟨b,k0,n0,x1,rfl⟩)
  ·cases h
 case h_11 args ats hop=>
  simp only[Option.bind_eq_some_iff] at h
  obtain⟨vs,hvs,h⟩:=h
  split at h
  ·rename_i p n
   obtain⟨up,un,hargs,hp,hn⟩:=KO hts hvs
   simp only[aV] at hn; subst hn
   obtain⟨r,w',k1,k2,k3,k4,k5⟩:=Bk (ty:=o.type) I hp h
   exact⟨_,r,w',G,by simp[execOp,hop,resolve,invoke,builtin,hargs,k1],.inl rfl,k2,k3,k4,k5⟩
  ·cases h
 case h_12 args ats hop=>
  simp only[Option.bind_eq_some_iff] at h
  obtain⟨vs,hvs,h⟩:=h
  have cap:∀{t e:TypeId} {b:Option Addr} {n c:Nat},ats[0]? =some t→P.underlying t=some (.slice e)→(Builtin.cap_ ats o.type #[.slice b n c]).run P w=.ok (.int .i64 c) w:=fun{t e b n c} ht hd=>by
   unfold Builtin.cap_
   rw[ht]
   simp only[List.getElem?_toArray,List.getElem?_cons_zero,Sem.run_bind,run_underlying hd,Result.andThen_ok]
   rfl
  split at h <;> first | (cases h; done) | skip
  all_goals
   simp only[Option.bind_eq_some_iff] at h
   obtain⟨t,ht,d,hd,h⟩:=h
   split at h <;> first | (cases h; done) | skip
   injection h with h; injection h with e1 e2; subst e1; subst e2
   obtain⟨ux,hargs,hx⟩:=Kg hts hvs
   simp only[aV] at hx
  ·subst hx
   exact yZ.value (v:=.int .i64 0) (by
    have:=cap (b:=none) (n:=0) (c:=0) ht hd
    simp[execOp,hop,resolve,invoke,builtin,hargs,this]) I (by simp only[aV])
  ·obtain⟨b,off,c,m,n,rfl,_,_,_,_,_,_,hcap,_⟩:=hx
   have:=hcap _ rfl
   subst this
   exact yZ.value (v:=.int .i64 c) (by simp[execOp,hop,resolve,invoke,builtin,hargs,cap ht hd]) I (by simp only[aV])
  ·obtain⟨b,k,n,c,_,rfl,_,hcap,_⟩:=hx
   have:=hcap _ rfl
   subst this
   exact yZ.value (v:=.int .i64 c) (by simp[execOp,hop,resolve,invoke,builtin,hargs,cap ht hd]) I (by simp only[aV])
 case h_13=>cases h
theorem LO {C:AO}{f:FuncId}(I:Inv W0 G st w){ts:List AV}{a:Act}{o:Oper}{v:AV}{st':St}(hts:aT G st w ts a.tmps.toList)(h:E7 C f ts st o=some (v,st')):
 yZ W0 G st w ((execOp a.eval o).run C.P w) v st':=by
 unfold E7 at h
 split at h
 ·rename_i hk
  simp only[Option.bind_eq_some_iff] at h
  obtain⟨u,hu,h⟩:=h
  injection h with h; injection h with e1 e2; subst e1; subst e2
  obtain⟨r,r1,r2⟩:=CS (w:=w) hts hk hu
  exact yZ.value r1 I r2
 ·simp only[Option.bind_eq_some_iff] at h
  obtain⟨vs,hvs,u,hu,h⟩:=h
  injection h with h; injection h with e1 e2; subst e1; subst e2
  obtain⟨r,r1,r2⟩:=DQ (P:=C.P) I (aT.cU hts hvs) hu
  exact yZ.value r1 I r2
 ·rename_i hk
  simp only[Option.bind_eq_some_iff] at h
  obtain⟨⟨g,x⟩,hx,h⟩:=h
  injection h with h; injection h with e1 e2; subst e1; subst e2
  exact yZ.Ht I (EW (I.push x) (aT.mono (Le.push I x) _ _ hts) hk hx (by simp[St.push]) (xX I) (CC x))
 ·exact Hh I hts h
end
end Go.Ev
end
