/- SyntaxBlanks, part 10 of 10 of its proof (what is proved: whatever the text is, the law answers true; conditions: those each theorem states). Joined and shortened by a program. In order: SynW | SynY | SynX | SynXb | SynXc | SynZ | SynXd | SynXe | SynXf -/
import Derived.Test.YthodfojhbbendaaDoorPi
import Derived.Lib.ParseIntBTie
import Derived.Test.YthodfojhbbendaaDoorPf
import Derived.Test.YthodfojhbbendaaDoorRows
import Derived.WalkKit
import Derived.ProofKit
import Derived.LaidMore
import Derived.OpenShut
import Derived.ChangeOld
import Derived.Below
import Derived.Stop.Joined
import Derived.MakeChecks
import Derived.Lib.LaidTab
section
set_option linter.all false
set_option maxRecDepth 100000
set_option maxHeartbeats 1000000
namespace Go.Proofs.YthodfojhbbendaaDoor
open Go Go.Ev
noncomputable section
theorem zC:Fits E0 3999:=⟨by decide,by decide,Fi rfl,trivial⟩
theorem Jn {ws:List W}{i0:Nat}{z:Z}{e:Ex}(h:XF i0 z e)(he:z.e=0)(hz:z.i<ws.length)(hl:ws.length≤1100):Fits e 3999∧e.wt≤2750000∧e.dp≤1100:=by
 obtain⟨h1,h2,h3,h4⟩:=h he
 exact⟨⟨by omega,by omega,h4⟩,by omega,by omega⟩
theorem GZ {ws:List W}(W:Wf ws)(hl:ws.length≤1100){R:Nat}(hR:3000<R){z:Z}(hG:Gd ws z):
 ∃ e z',wZ ws R z=.some (e,z')∧Ad ws z z'∧(z'.e=0→Fits e 3999∧e.wt≤2750000∧e.dp≤1100):=by
 unfold wZ
 rcases e1:gQ ws z [87,72,69,82,69] with⟨b1,z1⟩
 obtain⟨h1,h2,h3⟩:=jD W hG.lt (by decide) e1
 cases b1 with
 | true =>
   obtain⟨e,z',q1,q2,q3⟩:=IS W hR (hG.of h1)
   exact⟨e,z',q1,h1.trans q2,fun he=>Jn q3 he q2.lt hl⟩
 | false=>exact⟨_,_,rfl,h1,fun _=>⟨zC,by decide,by decide⟩⟩
theorem M5 {ws:List W}{z:Z}(h:z.i<ws.length){n:Nat}:Ad ws z (zP z n):=by
 unfold zP
 split
 ·exact xD h
 ·exact Ad.refl h
theorem M1 {ws : List W} {Rn : Nat} (W : Wf ws) (hR : 3000 < Rn) : ∀ (r : Nat) {ns : List (List UInt8)} {out : List Ex} {z : Z} {i0 : Nat}, Gd ws z → 0 < r → (z.e = 0 → ws.length - z.i < r) → LF i0 z out ns →
 ∃ ns' l z',Bo ws Rn r ns out z=.some (ns',l,z')∧Ad ws z z'∧LF i0 z' l ns'
 | 0,_,_,_,_,_,h,_,_=>by omega
 | r + 1, ns, out, z, i0, hG, _, hr, hx => by
   unfold Bo
   by_cases he:z.e=0
   ·rw[if_pos he]
    obtain⟨x0,x1,x2,x3,x4,x5⟩:=hx he
    have hc:=M5 hG.lt (n:=ns.length) (z:=z)
    obtain⟨n1,n2,n3⟩:=tG W hc.lt
    have hmu:=(oN (ws:=ws) (k:=6) (s:=[61]) W n1.lt (by decide)).1
    have hB:=(hc.trans n1).trans hmu
    obtain⟨y,z5,q1,q2,q3⟩:=IS W hR (hG.of hB)
    have hf:=W.Lo
    have hlt:=hG.lt
    rw[q1,Option.bind_some,if_pos (by unfold iT; omega)]
    dsimp only
    have hA:=hB.trans q2
    have hcl:=hc.le
    have hnl:=n1.le
    have hul:=hmu.le
    have hr0:=hr he
    have hF:LF i0 z5 (out ++ [y]) (ns ++ [(cJ ws (zP z ns.length)).1]):=fun h5=>by
     obtain⟨y1,y2,y3,y4⟩:=q3 h5
     have hn:=n2 (hmu.e0 (q2.e0 h5))
     rw[CO,C6,C7,List.length_append,List.length_append]
     simp only[List.length_cons,List.length_nil] at *
     exact⟨by omega,by omega,by omega,Bs x3 y4,by omega,by omega⟩
    rcases e5:iC ws z5 [44] with⟨b5,z6⟩
    obtain⟨h4,h5,h6⟩:=jD W q2.lt (by decide) e5
    cases b5 with
    | true =>
      obtain⟨k1,k2,k3⟩:=h5 rfl
      dsimp only
      have y1:=(q3 k1).1
      obtain⟨ns',l,z',p1,p2,p3⟩:=M1 W hR r (i0:=i0) (hG.of (hA.trans h4)) (by omega) (fun _=>by omega) (z:=z6) (out:=out ++ [y]) (ns:=ns ++ [(cJ ws (zP z ns.length)).1]) (fun _=>by
       obtain⟨f0,f1,f2,f3,f4,f5⟩:=hF k1
       exact⟨by omega,by omega,by omega,f3,by omega,by omega⟩)
      exact⟨ns',l,z',p1,(hA.trans h4).trans p2,p3⟩
    | false =>
      obtain rfl:=h6 rfl
      exact⟨_,_,_,rfl,hA,hF⟩
   ·rw[if_neg he]
    exact⟨_,_,_,rfl,Ad.refl hG.lt,hx⟩
theorem ND:∀{l:List Ex} {e:Ex},e ∈ l→e.dp≤FA l∧e.wt≤F8 l∧(Jo l→e.ok):=by
 intro l e h
 obtain⟨j,hj,rfl⟩:=List.mem_iff_getElem.1 h
 exact GD hj
theorem Jl:∀{l:List (List UInt8)} {n:List UInt8},n ∈ l→n.length≤Cc l:=by
 intro l n h
 obtain⟨j,hj,rfl⟩:=List.mem_iff_getElem.1 h
 exact Gl hj
theorem Lj {ws : List W} {Rn : Nat} (W : Wf ws) (hR : 3000 < Rn) : ∀ (r : Nat) {ns : List (List UInt8)} {z : Z} {i0 : Nat}, z.i < ws.length → 0 < r → (z.e = 0 → ws.length - z.i < r) → (z.e = 0 → i0 ≤ z.i ∧ Cc ns ≤ 2500 * (z.i - i0) ∧ ns.length ≤ z.i - i0) →
 (z.e≠0→ns.length≤2001)→ ∃ ns' z',Bx ws Rn r ns z=.some (ns',z')∧Ad ws z z'∧(z'.e=0→i0≤z'.i∧Cc ns'≤2500 * (z'.i - i0)∧ns'.length≤z'.i - i0)
 | 0,_,_,_,_,h,_,_,_=>by omega
 | r + 1, ns, z, i0, hi, _, hr, hx, hx2 => by
   unfold Bx
   rcases e1:iC ws z [44] with⟨b1,z1⟩
   obtain⟨h1,h2,h3⟩:=jD W hi (by decide) e1
   cases b1 with
   | true =>
     obtain⟨k1,k2,k3⟩:=h2 rfl
     obtain⟨x0,x1,x2⟩:=hx k1
     dsimp only
     have hc:=M5 h1.lt (n:=ns.length) (z:=z1)
     obtain⟨s,z5,q1,q2,q3,q4⟩:=GR W hR hc.lt
     have hf:=W.Lo
     rw[q1,Option.bind_some,if_pos (by unfold iT; omega)]
     have hcl:=hc.le
     have hql:=q2.le
     have hqt:=q2.lt
     have hr0:=hr k1
     obtain⟨ns',z',p1,p2,p3⟩:=Lj W hR r (ns:=ns ++ [s]) (z:=z5) (i0:=i0) q2.lt (by omega) (fun h5=>by have:=q3 h5; omega) (fun h5=>by
      have:=q3 h5
      rw[C7,List.length_append]
      simp only[List.length_cons,List.length_nil]
      exact⟨by omega,by omega,by omega⟩) (fun _=>by rw[List.length_append]; simp only[List.length_cons,List.length_nil]; omega)
     exact⟨ns',z',p1,((h1.trans hc).trans q2).trans p2,p3⟩
   | false =>
     obtain rfl:=h3 rfl
     exact⟨_,_,rfl,h1,hx⟩
theorem OJ {ws : List W} {Rn : Nat} (W : Wf ws) (hR : 3000 < Rn) {z : Z} (hi : z.i < ws.length) :
 ∃ ns c z',Cy ws Rn z=.some (ns,c,z')∧Ad ws z z'∧(z'.e=0→Cc ns≤2500 * (z'.i - z.i)∧ns.length≤z'.i - z.i):=by
 unfold Cy
 rcases e1:iC ws z [42] with⟨b1,z1⟩
 obtain⟨h1,h2,h3⟩:=jD W hi (by decide) e1
 cases b1 with
 | true=>exact⟨_,_,_,rfl,h1,fun _=>⟨Nat.zero_le _,Nat.zero_le _⟩⟩
 | false =>
   obtain rfl:=h3 rfl
   dsimp only
   rcases e2:gQ ws z1 [67,79,85,78,84] with⟨b2,z2⟩
   obtain⟨h4,h5,h6⟩:=jD W hi (by decide) e2
   cases b2 with
   | true=>exact⟨_,_,_,rfl,h4,fun _=>⟨Nat.zero_le _,Nat.zero_le _⟩⟩
   | false =>
     obtain rfl:=h6 rfl
     dsimp only
     obtain⟨s,z5,q1,q2,q3,q4⟩:=GR W hR hi
     rw[q1,Option.bind_some]
     have hf:=W.Lo
     have hql:=q2.le
     have hqt:=q2.lt
     obtain⟨ns',z',p1,p2,p3⟩:=Lj W hR Rn (ns:=[s]) (z:=z5) (i0:=z2.i) q2.lt (by omega) (fun _=>by omega) (fun h5=>by
      have:=q3 h5
      simp only[Cc,List.length_cons,List.length_nil]
      exact⟨by omega,by omega,by omega⟩) (fun _=>by simp)
     dsimp only
     rw[p1]
     exact⟨_,_,_,rfl,q2.trans p2,fun he=>⟨(p3 he).2.1,(p3 he).2.2⟩⟩
theorem N3 {ws : List W} (W : Wf ws) {z : Z} (hi : z.i < ws.length) : Ad ws z (rR ws z).2.2 ∧ ((rR ws z).2.2.e = 0 → (rR ws z).2.1.length ≤ 2000) := by
 have hf:=W.Lo
 unfold rR
 rcases e1:gQ ws z [72,73,83,84,79,82,89] with⟨b1,z1⟩
 obtain⟨h1,h2,h3⟩:=jD W hi (by decide) e1
 cases b1 with
 | true =>
   dsimp only
   have m1:=(oN (ws:=ws) (z:=z1) (k:=6) (s:=[40]) W h1.lt (by decide)).1
   obtain⟨n1,n2,n3⟩:=tG W m1.lt
   have m2:=(oN (ws:=ws) (k:=6) (s:=[41]) W n1.lt (by decide)).1
   have:=n1.lt
   exact⟨((h1.trans m1).trans n1).trans m2,fun _=>by
    have hs:(cJ ws (dE ws z1 6 [40])).1.length≤2000:=by
     unfold cJ
     split
     ·exact W.short _
     ·exact Nat.zero_le _
    omega⟩
 | false =>
   dsimp only
   obtain⟨n1,n2,n3⟩:=tG W h1.lt
   exact⟨h1.trans n1,fun _=>by
    have hs:(cJ ws z1).1.length≤2000:=by
     unfold cJ
     split
     ·exact W.short _
     ·exact Nat.zero_le _
    omega⟩
theorem uK {ws:List W}(W:Wf ws){z:Z}:(cJ ws z).1.length≤2000:=by
 unfold cJ
 split
 ·exact W.short _
 ·exact Nat.zero_le _
theorem NZ {ws:List W}(W:Wf ws)(hl:ws.length≤1100){R:Nat}(hR:3000<R){z:Z}(hi:z.i<ws.length):
 ∃ o d z',A6 ws R z=.some (o,d,z')∧Ad ws z z'∧o.length≤2750000:=by
 unfold A6
 rcases e1:gQ ws z [79,82,68,69,82] with⟨b1,z1⟩
 obtain⟨h1,h2,h3⟩:=jD W hi (by decide) e1
 cases b1 with
 | true =>
   dsimp only
   have m1:=(oN (ws:=ws) (z:=z1) (k:=2) (s:=[66,89]) W h1.lt (by decide)).1
   obtain⟨s,z5,q1,q2,q3,q4⟩:=GR W hR m1.lt
   rw[q1,Option.bind_some]
   dsimp only
   have:=q2.lt
   rcases e4:gQ ws z5 [68,69,83,67] with⟨b4,z4⟩
   obtain⟨h4,h5,h6⟩:=jD W q2.lt (by decide) e4
   exact⟨_,_,_,rfl,((h1.trans m1).trans q2).trans h4,by omega⟩
 | false=>exact⟨_,_,_,rfl,h1,Nat.zero_le _⟩
theorem PL {ws : List W} (W : Wf ws) {z : Z} (hi : z.i < ws.length) : Ad ws z (Ck ws z).2 ∧ (Ck ws z).1 ≤ 9223372036854775807 := by
 unfold Ck
 rcases e1:gQ ws z [76,73,77,73,84] with⟨b1,z1⟩
 obtain⟨h1,h2,h3⟩:=jD W hi (by decide) e1
 cases b1 with
 | true =>
   dsimp only
   unfold B6
   cases e:Nl (Go.Lib.atoiAll (wd ws z1.i).2.1) with
   | some v =>
     dsimp only
     have hv:v≤9223372036854775807:=by
      unfold Nl at e
      split at e
      ·rename_i w hw
       have:=Go.Lib.atoiAll_bounds hw
       rw[← Option.some.inj e]; exact this.2
      ·cases e
     split
     ·rename_i h
      exact⟨h1.trans (A9 W h1.lt h.1 (by rw[h.2]; decide)),hv⟩
     ·exact⟨h1.trans (xD h1.lt),(by decide:(-1:Int)≤9223372036854775807)⟩
   | none=>exact⟨h1.trans (xD h1.lt),(by decide:(-1:Int)≤9223372036854775807)⟩
 | false=>exact⟨h1,(by decide:(-1:Int)≤9223372036854775807)⟩
theorem NH {v:Vl}(h:v.ok)(hk:v.k=2):(Go.Lib.itoa v.n).length≤21:=Go.Lib.itoa_length_le _ (h hk).1 (h hk).2
theorem NT {v : Vl} (h : v.ok) : Bj (BR v) ≤ 40 + v.s.length ∧ Cl (BR v) = 1 := by
 unfold BR
 split
 ·exact⟨by simp[Bj,kT]; omega,by simp[Cl,lU]⟩
 ·split
  ·split
   ·exact⟨by simp[Bj,kT]; omega,by simp[Cl,lU]⟩
   ·exact⟨by simp[Bj,kT]; omega,by simp[Cl,lU]⟩
  ·split
   ·rename_i hk
    have:=NH h hk
    exact⟨by simp[Bj,kT]; omega,by simp[Cl,lU]⟩
   ·split
    ·exact⟨by simp[Bj,kT]; omega,by simp[Cl,lU]⟩
    ·exact⟨by simp[Bj,kT]; omega,by simp[Cl,lU]⟩
theorem L8 {k:Int}{s:List UInt8}:(vM k s).length≤10+s.length:=by
 unfold vM
 repeat' split
 all_goals simp <;> omega
mutual
theorem Hc : ∀ e : Ex, e.ok → Bj (tE e) ≤ e.wt ∧ Cl (tE e) ≤ 2 * e.dp
 | .mk k s v kids names, h => by
   obtain⟨hv,hk⟩:=h
   rw[tE]
   have h1:=NT hv
   have h2:=Io (decide (k=8)) kids names hk
   have h3:=L8 (k:=k) (s:=s)
   simp only[Ex.wt,Ex.dp]
   split
   ·exact⟨by omega,by omega⟩
   ·split
    ·exact⟨by simp[Bj,kT]; omega,by simp[Cl,lU]; omega⟩
    ·simp only[Bj,Cl]
     exact⟨by omega,by omega⟩
theorem Io:∀(b:Bool) (l:List Ex) (ns:List (List UInt8)),Jo l→kT (GS b l ns)≤F8 l+Cc ns∧lU (GS b l ns)≤2 * FA l+1
 | b,[],ns,_=>by simp[GS,kT,lU]
 | b, e :: l, [], h => by
   have h1:=Hc e h.1
   have h2:=Io b l [] h.2
   simp only[GS,kT,lU,F8,FA,Cc] at *
   exact⟨by omega,by omega⟩
 | b, e :: l, n :: ns, h => by
   have h1:=Hc e h.1
   have h2:=Io b l ns h.2
   cases b with
   | true =>
     simp only[GS,if_true,kT,Bj,lU,Cl,F8,FA,Cc,List.length_append,List.length_cons,List.length_nil] at *
     exact⟨by omega,by omega⟩
   | false =>
     simp only[GS,Bool.false_eq_true,if_false,kT,lU,F8,FA,Cc] at *
     exact⟨by omega,by omega⟩
end
theorem wO:∀(l k:List nI),kT (l ++ k)=kT l+kT k∧lU (l ++ k)=max (lU l) (lU k)
 | [],k=>by simp[kT,lU]
 | t :: l, k => by
   have:=wO l k
   simp only[List.cons_append,kT,lU,this.1,this.2]
   exact⟨by omega,by omega⟩
theorem L7 {w:Ex}(h:w.ok):kT (tW w)≤20+w.wt∧lU (tW w)≤2 * w.dp+1:=by
 have:=Hc w h
 unfold tW
 split
 ·simp[kT,lU]
 ·simp only[kT,Bj,lU,Cl,List.length_cons,List.length_nil]
  exact⟨by omega,by omega⟩
theorem Jc:∀(ns:List (List UInt8)) (l:List Ex),Jo l→kT (y8 ns l)≤F8 l+Cc ns∧lU (y8 ns l)≤2 * FA l+1
 | [],l,_=>by simp[y8,kT,lU]
 | n :: ns,[],_=>by simp[y8,kT,lU]
 | n :: ns, e :: l, h => by
   have h1:=Hc e h.1
   have h2:=Jc ns l h.2
   simp only[y8,kT,Bj,lU,Cl,F8,FA,Cc,List.length_append,List.length_cons,List.length_nil] at *
   exact⟨by omega,by omega⟩
theorem Ju:∀ ns:List (List UInt8),kT (ns.map Gx)≤Cc ns∧lU (ns.map Gx)≤1
 | []=>by simp[kT,lU]
 | n :: ns => by
   have:=Ju ns
   simp only[List.map_cons,kT,lU,Gx,Bj,Cl,Cc,List.length_append,List.length_cons,List.length_nil] at *
   exact⟨by omega,by omega⟩
theorem J4 {b:Bool}{s:List UInt8}(h:s.length≤10):kT (opt b (.mk s []))≤20∧lU (opt b (.mk s []))≤1:=by
 unfold opt
 split
 ·simp only[kT,Bj,lU,Cl]; exact⟨by omega,by omega⟩
 ·simp[kT,lU]
def PZ:Z:=⟨0,0,0,0⟩
def SG (m:Sm):Prop:=FZ m∧yE (tS m) 4000
theorem NK {l:List Ex}{B:Nat}(hB:B≤2750000)(h1:F8 l≤B)(h2:FA l≤1100)(h3:Jo l):∀ e ∈ l,Fits e 3999:=by
 intro e he
 obtain⟨a,b,c⟩:=ND he
 exact⟨by omega,by omega,c h3⟩
theorem KC {m:Sm}{s:List UInt8}(hv:m.v=E0)(hw:m.w=E0)(hn:m.names=[])(he:m.exprs=[])(hc:m.nG=[])(ht:m.t.length≤2000)(hf:m.f.length≤2000)(ho:m.o=[])(hl:m.l= -1)(hs:tS m=.mk s [])(hs2:s.length≤5000):SG m:=by
 refine⟨⟨by rw[hv]; exact zC,by rw[hw]; exact zC,by omega,by omega,by rw[ho]; exact Nat.zero_le _,by rw[hn]; exact Nat.zero_le _,by rw[hn]; simp,by rw[he]; simp,by rw[hc]; exact Nat.zero_le _,by rw[hc]; simp,by rw[hl]; decide⟩,?_⟩
 rw[hs]
 simp only[yE,Cl,lU,Bj,kT]
 exact⟨by omega,by omega⟩
theorem Lv {ws:List W}(W:Wf ws){z:Z}(hi:z.i<ws.length):Ad ws z (uF ws z).2∧SG (uF ws z).1:=by
 unfold uF
 rcases e1:gQ ws z [84,65,66,76,69] with⟨b1,z1⟩
 obtain⟨h1,h2,h3⟩:=jD W hi (by decide) e1
 cases b1 with
 | true =>
   dsimp only
   have:=uK W (z:=z1)
   refine⟨h1.trans (tG W h1.lt).1,?_⟩
   exact KC rfl rfl rfl rfl rfl this (Nat.zero_le _) rfl rfl rfl (by simp only[List.length_append,List.length_cons,List.length_nil]; omega)
 | false =>
   dsimp only
   have m1:=(oN (ws:=ws) (z:=z1) (k:=2) (s:=[73,78,68,69,88]) W h1.lt (by decide)).1
   have m2:=(oN (ws:=ws) (k:=2) (s:=[79,78]) W m1.lt (by decide)).1
   have n1:=(tG W m2.lt).1
   have m3:=(oN (ws:=ws) (k:=6) (s:=[40]) W n1.lt (by decide)).1
   have n2:=(tG W m3.lt).1
   have m4:=(oN (ws:=ws) (k:=6) (s:=[41]) W n2.lt (by decide)).1
   have l1:=uK W (z:=dE ws (dE ws z1 2 [73,78,68,69,88]) 2 [79,78])
   have l2:=uK W (z:=dE ws (cJ ws (dE ws (dE ws z1 2 [73,78,68,69,88]) 2 [79,78])).2 6 [40])
   refine⟨((((h1.trans m1).trans m2).trans n1).trans m3 |>.trans n2).trans m4,?_⟩
   exact KC rfl rfl rfl rfl rfl l1 l2 rfl rfl rfl (by simp only[List.length_append,List.length_cons,List.length_nil]; omega)
theorem L4 {ws:List W}(W:Wf ws)(hl:ws.length≤1100){R:Nat}(hR:3000<R){z:Z}(hG:Gd ws z):∃ m z',wB ws R z=.some (m,z')∧Ad ws z z'∧(z'.e=0→SG m):=by
 unfold wB
 obtain⟨n1,n2,n3⟩:=tG W hG.lt
 have m1:=(oN (ws:=ws) (k:=2) (s:=[83,69,84]) W n1.lt (by decide)).1
 have hA:=n1.trans m1
 have hf:=W.Lo
 have ha:=hA.lt
 obtain⟨ns,l,z2,q1,q2,q3⟩:=M1 W hR R (ns:=[]) (out:=[]) (i0:=(dE ws (cJ ws z).2 2 [83,69,84]).i) (hG.of hA) (by omega) (fun _=>by omega) (fun _=>⟨Nat.le_refl _,Nat.zero_le _,Nat.zero_le _,trivial,Nat.zero_le _,Nat.zero_le _⟩)
 rw[q1,Option.bind_some]
 dsimp only
 obtain⟨w,z3,p1,p2,p3⟩:=GZ W hl hR (hG.of (hA.trans q2))
 rw[p1,Option.bind_some]
 refine⟨_,_,rfl,(hA.trans q2).trans p2,fun he=>?_⟩
 obtain⟨w1,w2,w3⟩:=p3 he
 obtain⟨f0,f1,f2,f3,f4,f5⟩:=q3 (p2.e0 he)
 have hq:=q2.lt
 have nt:=uK W (z:=z)
 refine⟨⟨zC,w1,Nat.le_trans nt (by omega),Nat.zero_le _,Nat.zero_le _,?_,?_,?_,Nat.zero_le _,(fun n h=>by cases h),(by decide:(-1:Int)≤9223372036854775807)⟩,?_⟩
 ·show ns.length≤_
  omega
 ·intro n hn
  have:=Jl (l:=ns) hn
  show n.length≤10000000
  omega
 ·exact NK (l:=l) (B:=2750000) (Nat.le_refl _) (by omega) (by omega) f3
 ·have t1:=Jc ns l f3
  have t2:=L7 w1.2.2
  have t3:=wO (y8 ns l) (tW w)
  show yE (.mk (_ ++ (cJ ws z).1) (y8 ns l ++ tW w)) 4000
  simp only[yE,Cl,Bj,t3.1,t3.2,List.length_append,List.length_cons,List.length_nil]
  exact⟨by omega,by omega⟩
theorem LN {ws : List W} (W : Wf ws) (hl : ws.length ≤ 1100) {R : Nat} (hR : 3000 < R) {z : Z} (hG : Gd ws z) : ∃ m z', wD ws R z = .some (m, z') ∧ Ad ws z z' ∧ (z'.e = 0 → SG m) := by
 unfold wD
 obtain⟨ns,c,z1,q1,q2,q3⟩:=OJ W hR hG.lt
 rw[q1,Option.bind_some]
 dsimp only
 have m1:=(oN (ws:=ws) (z:=z1) (k:=2) (s:=[70,82,79,77]) W q2.lt (by decide)).1
 obtain⟨t1,t2⟩:=N3 W m1.lt
 have hA:=(q2.trans m1).trans t1
 obtain⟨w,z4,p1,p2,p3⟩:=GZ W hl hR (hG.of hA)
 rw[p1,Option.bind_some]
 dsimp only
 obtain⟨o,d,z5,o1,o2,o3⟩:=NZ W hl hR p2.lt
 rw[o1,Option.bind_some]
 dsimp only
 obtain⟨l1,l2⟩:=PL W o2.lt
 refine⟨_,_,rfl,((hA.trans p2).trans o2).trans l1,fun he=>?_⟩
 have he5:=l1.e0 he
 have he4:=o2.e0 he5
 obtain⟨w1,w2,w3⟩:=p3 he4
 have he3:=p2.e0 he4
 have ht:=t2 he3
 have he1:=m1.e0 (t1.e0 he3)
 obtain⟨c1,c2⟩:=q3 he1
 have hq:=q2.lt
 generalize hh:rR ws (dE ws z1 2 [70,82,79,77])=tb at *
 generalize hlm:Ck ws z5=lm at *
 refine⟨⟨zC,w1,by show tb.2.1.length≤_; omega,Nat.zero_le _,by show o.length≤_; omega,Nat.zero_le _,(fun n h=>by cases h),(fun n h=>by cases h),?_,?_,l2⟩,?_⟩
 ·show ns.length≤_
  omega
 ·intro n hn
  have:=Jl (l:=ns) hn
  show n.length≤10000000
  omega
 ·have a1:=Ju ns
  have a2:=J4 (b:=c) (s:=[67,79,85,78,84]) (by decide)
  have a3:=J4 (b:=tb.1) (s:=[72,73,83,84,79,82,89]) (by decide)
  have a4:=L7 w1.2.2
  have a5:kT (if o=[] then [] else [nI.mk ([79,82,68,69,82,32] ++ o) []])≤20+o.length∧lU (if o=[] then [] else [nI.mk ([79,82,68,69,82,32] ++ o) []])≤1:=by
   split
   ·simp[kT,lU]
   ·simp only[kT,Bj,lU,Cl,List.length_append,List.length_cons,List.length_nil]; exact⟨by omega,by omega⟩
  have a6:=J4 (b:=d) (s:=[68,69,83,67]) (by decide)
  have a7:kT (if lm.1≥0 then [nI.mk ([76,73,77,73,84,32] ++ Go.Lib.itoa lm.1) []] else [])≤50∧lU (if lm.1≥0 then [nI.mk ([76,73,77,73,84,32] ++ Go.Lib.itoa lm.1) []] else [])≤1:=by
   split
   ·have:=Go.Lib.itoa_length_le lm.1 (by omega) l2
    simp only[kT,Bj,lU,Cl,List.length_append,List.length_cons,List.length_nil]; exact⟨by omega,by omega⟩
   ·simp[kT,lU]
  show yE (.mk (_ ++ tb.2.1) ((((((ns.map Gx) ++ opt c (.mk [67,79,85,78,84] [])) ++ opt tb.1 (.mk [72,73,83,84,79,82,89] [])) ++ tW w) ++ (if o=[] then [] else [nI.mk ([79,82,68,69,82,32] ++ o) []])) ++ opt d (.mk [68,69,83,67] []) ++ (if lm.1≥0 then [nI.mk ([76,73,77,73,84,32] ++ Go.Lib.itoa lm.1) []] else []))) 4000
  simp only[yE,Cl,Bj,(wO _ _).1,(wO _ _).2,List.length_append,List.length_cons,List.length_nil]
  exact⟨by omega,by omega⟩
theorem O6 {ws : List W} (W : Wf ws) (hl : ws.length ≤ 1100) {R : Nat} (hR : 3000 < R) {z : Z} (hG : Gd ws z) : ∃ m z', Cs ws R z = .some (m, z') ∧ Ad ws z z' ∧ (z'.e = 0 → SG m) := by
 unfold Cs
 rcases e1:gQ ws z [67,82,69,65,84,69] with⟨b1,z1⟩
 obtain⟨h1,h2,h3⟩:=jD W hG.lt (by decide) e1
 cases b1 with
 | true =>
   obtain⟨c1,c2⟩:=Lv W h1.lt
   exact⟨_,_,rfl,h1.trans c1,fun _=>c2⟩
 | false =>
   obtain rfl:=h3 rfl
   dsimp only
   rcases e2:gQ ws z1 [73,78,83,69,82,84] with⟨b2,z2⟩
   obtain⟨h4,h5,h6⟩:=jD W hG.lt (by decide) e2
   cases b2 with
   | true =>
     dsimp only
     have m1:=(oN (ws:=ws) (z:=z2) (k:=2) (s:=[73,78,84,79]) W h4.lt (by decide)).1
     have n1:=(tG W m1.lt).1
     have m2:=(oN (ws:=ws) (k:=2) (s:=[86,65,76,85,69]) W n1.lt (by decide)).1
     have hA:=((h4.trans m1).trans n1).trans m2
     obtain⟨v,z5,q1,q2,q3⟩:=IS W hR (hG.of hA)
     rw[q1,Option.bind_some]
     refine⟨_,_,rfl,hA.trans q2,fun he=>?_⟩
     obtain⟨w1,w2,w3⟩:=Jn q3 he q2.lt hl
     have nt:=uK W (z:=dE ws z2 2 [73,78,84,79])
     refine⟨⟨w1,zC,Nat.le_trans nt (by omega),Nat.zero_le _,Nat.zero_le _,Nat.zero_le _,(fun n h=>by cases h),(fun n h=>by cases h),Nat.zero_le _,(fun n h=>by cases h),(by decide:(-1:Int)≤9223372036854775807)⟩,?_⟩
     have t1:=Hc v w1.2.2
     show yE (.mk (_ ++ (cJ ws (dE ws z2 2 [73,78,84,79])).1) [tE v]) 4000
     simp only[yE,Cl,lU,Bj,kT,List.length_append,List.length_cons,List.length_nil]
     exact⟨by omega,by omega⟩
   | false =>
     obtain rfl:=h6 rfl
     dsimp only
     rcases e3:gQ ws z2 [85,80,68,65,84,69] with⟨b3,z3⟩
     obtain⟨h7,h8,h9⟩:=jD W hG.lt (by decide) e3
     cases b3 with
     | true =>
       dsimp only
       obtain⟨m,z',q1,q2,q3⟩:=L4 W hl hR (hG.of h7)
       exact⟨m,z',q1,h7.trans q2,q3⟩
     | false =>
       obtain rfl:=h9 rfl
       dsimp only
       rcases e4:gQ ws z3 [68,69,76,69,84,69] with⟨b4,z4⟩
       obtain⟨h10,Mf,h12⟩:=jD W hG.lt (by decide) e4
       cases b4 with
       | true =>
         dsimp only
         have m1:=(oN (ws:=ws) (z:=z4) (k:=2) (s:=[70,82,79,77]) W h10.lt (by decide)).1
         have n1:=(tG W m1.lt).1
         have hA:=(h10.trans m1).trans n1
         obtain⟨w,z5,p1,p2,p3⟩:=GZ W hl hR (hG.of hA)
         rw[p1,Option.bind_some]
         refine⟨_,_,rfl,hA.trans p2,fun he=>?_⟩
         obtain⟨w1,w2,w3⟩:=p3 he
         have nt:=uK W (z:=dE ws z4 2 [70,82,79,77])
         refine⟨⟨zC,w1,Nat.le_trans nt (by omega),Nat.zero_le _,Nat.zero_le _,Nat.zero_le _,(fun n h=>by cases h),(fun n h=>by cases h),Nat.zero_le _,(fun n h=>by cases h),(by decide:(-1:Int)≤9223372036854775807)⟩,?_⟩
         have t2:=L7 w1.2.2
         show yE (.mk (_ ++ (cJ ws (dE ws z4 2 [70,82,79,77])).1) (tW w)) 4000
         simp only[yE,Cl,Bj,List.length_append,List.length_cons,List.length_nil]
         exact⟨by omega,by omega⟩
       | false =>
         obtain rfl:=h12 rfl
         dsimp only
         rcases e5:gQ ws z4 [83,69,76,69,67,84] with⟨b5,z5⟩
         obtain⟨h13,h14,h15⟩:=jD W hG.lt (by decide) e5
         cases b5 with
         | true =>
           dsimp only
           obtain⟨m,z',q1,q2,q3⟩:=LN W hl hR (hG.of h13)
           exact⟨m,z',q1,h13.trans q2,q3⟩
         | false =>
           dsimp only
           exact⟨_,_,rfl,h13.trans (xD h13.lt),fun he=>absurd he (Ce (by decide))⟩
end
end Go.Proofs.YthodfojhbbendaaDoor
end
section
set_option linter.all false
set_option maxRecDepth 100000
set_option maxHeartbeats 1000000
namespace Go.Proofs.YthodfojhbbendaaDoor
open Go Go.Ev
noncomputable section
def qJ (ws ws':List W):Prop:=∀ i,(wd ws i).1=(wd ws' i).1∧(wd ws i).2.1=(wd ws' i).2.1
variable {ws ws':List W}
theorem PT (h:qJ ws ws'):Jg ws=Jg ws':=by
 funext z k s
 simp only[Jg,(h _).1,(h _).2]
theorem pW (h:qJ ws ws'):uZ ws=uZ ws':=by
 funext z k s
 simp only[uZ,PT h]
theorem uU (h:qJ ws ws'):dE ws=dE ws':=by
 funext z k s
 simp only[dE,PT h]
theorem AF (h:qJ ws ws'):cJ ws=cJ ws':=by
 funext z
 simp only[cJ,(h _).1,(h _).2]
theorem NG (h:qJ ws ws'):zE ws=zE ws':=by
 funext r
 induction r with
 | zero=>rfl
 | succ r ih=>funext s z; simp only[zE,iC,pW h,AF h,ih]
theorem Gw (h:qJ ws ws'):Bw ws=Bw ws':=by
 funext R z
 simp only[Bw,NG h,AF h]
theorem P3 (h:qJ ws ws'):HF ws=HF ws':=by
 funext z
 simp only[HF,gQ,pW h,(h _).1,(h _).2]
theorem JQ (h:qJ ws ws'):nW ws=nW ws':=by
 funext z n
 simp only[nW,uU h]
theorem OA (h:qJ ws ws')(Q:Pr)(rank:Int):Bd ws Q rank=Bd ws' Q rank:=by
 funext r
 induction r with
 | zero=>rfl
 | succ r ih=>funext x z; simp only[Bd,(h _).1,(h _).2,ih]
theorem yD (h:qJ ws ws'):nF ws=nF ws':=by
 funext Q Rn rank z
 simp only[nF,OA h]
theorem PF (h:qJ ws ws'):Hr ws=Hr ws':=by
 funext Q Rn z
 simp only[Hr,gQ,pW h,yD h,uU h]
theorem NM (h:qJ ws ws')(Q:Pr)(Rn:Nat)(s:List UInt8):yW ws Q Rn s=yW ws' Q Rn s:=by
 funext r
 induction r with
 | zero=>rfl
 | succ r ih=>funext o z; simp only[yW,iC,pW h,yD h,JQ h,ih]
theorem NC (h:qJ ws ws')(Q:Pr)(Rn:Nat)(s:List UInt8):yY ws Q Rn s=yY ws' Q Rn s:=by
 funext r
 induction r with
 | zero=>rfl
 | succ r ih=>funext o n z; simp only[yY,iC,pW h,yD h,JQ h,AF h,uU h,ih]
theorem NI (h:qJ ws ws'):AA ws=AA ws':=by
 funext Q Rn z
 simp only[AA,iC,pW h,yD h,uU h,NM h,NC h,Gw h,P3 h,(h _).1]
theorem Ow (h:qJ ws ws')(Rn:Nat):∀ k,pc ws Rn k=pc ws' Rn k
 | 0=>rfl
 | k+1=>by simp only[pc,yD h,PF h,NI h,Ow h Rn k]
theorem IM (h:qJ ws ws'):D0 ws=D0 ws':=by
 funext Rn z
 simp only[D0,yD h,Ow h]
theorem GP (h:qJ ws ws'):wZ ws=wZ ws':=by
 funext Rn z
 simp only[wZ,gQ,pW h,IM h]
theorem NS (h:qJ ws ws'):B6 ws=B6 ws':=by
 funext z
 simp only[B6,(h _).1,(h _).2]
theorem LA (h:qJ ws ws'):uF ws=uF ws':=by
 funext z
 simp only[uF,gQ,pW h,AF h,uU h]
theorem Oi (h:qJ ws ws')(Rn:Nat):Bo ws Rn=Bo ws' Rn:=by
 funext r
 induction r with
 | zero=>rfl
 | succ r ih=>funext n o z; simp only[Bo,iC,pW h,IM h,AF h,uU h,ih]
theorem MJ (h:qJ ws ws'):wB ws=wB ws':=by
 funext Rn z
 simp only[wB,Oi h,GP h,AF h,uU h]
theorem OW (h:qJ ws ws')(Rn:Nat):Bx ws Rn=Bx ws' Rn:=by
 funext r
 induction r with
 | zero=>rfl
 | succ r ih=>funext n z; simp only[Bx,iC,pW h,Gw h,ih]
theorem Og (h:qJ ws ws'):Cy ws=Cy ws':=by
 funext Rn z
 simp only[Cy,iC,gQ,pW h,Gw h,OW h]
theorem NL (h:qJ ws ws'):rR ws=rR ws':=by
 funext z
 simp only[rR,gQ,pW h,AF h,uU h]
theorem Nf (h:qJ ws ws'):A6 ws=A6 ws':=by
 funext Rn z
 simp only[A6,gQ,pW h,Gw h,uU h]
theorem P0 (h:qJ ws ws'):Ck ws=Ck ws':=by
 funext z
 simp only[Ck,gQ,pW h,NS h]
theorem MC (h:qJ ws ws'):wD ws=wD ws':=by
 funext Rn z
 simp only[wD,Og h,GP h,NL h,Nf h,P0 h,uU h]
theorem Nz (h:qJ ws ws'):Cs ws=Cs ws':=by
 funext Rn z
 simp only[Cs,gQ,pW h,LA h,IM h,GP h,MJ h,MC h,AF h,uU h]
end
end Go.Proofs.YthodfojhbbendaaDoor
end
section
set_option linter.all false
set_option maxRecDepth 100000
set_option maxHeartbeats 1000000
namespace Go.Proofs.YthodfojhbbendaaDoor
open Go Go.Ev
noncomputable section
theorem yX : ∀ {l t : List UInt8} {m : Nat}, jU l = some (t, m) → ∀ {b : UInt8} {q : List UInt8}, b ≠ 39 → jU (l.take m ++ b :: q) = some (t, m)
 | [],t,m,h,_,_,_=>by cases h
 | [c], t, m, h, b, q, hb => by
   by_cases hc:c=39
   ·subst hc
    cases h
    simp[jU,hb]
   ·rw[xZ _ hc] at h
    cases h
 | c :: d :: r, t, m, h, b, q, hb => by
   by_cases hc:c=39
   ·by_cases hd:d=39
    ·subst hc; subst hd
     simp only[jU,if_true] at h
     obtain⟨p,h1,h2⟩:=Option.map_eq_some_iff.1 h
     obtain⟨t',m'⟩:=p
     cases h2
     have:=yX h1 (q:=q) hb
     show jU (39 :: 39 :: (r.take m' ++ b :: q))=_
     simp only[jU,if_true,this,Option.map_some]
    ·subst hc
     simp only[jU,if_true,if_neg hd] at h
     cases h
     simp[jU,hb]
   ·rw[xZ _ hc] at h
    obtain⟨p,h1,h2⟩:=Option.map_eq_some_iff.1 h
    obtain⟨t',m'⟩:=p
    cases h2
    have:=yX h1 (q:=q) hb
    show jU (c :: ((d :: r).take m' ++ b :: q))=_
    rw[xZ _ hc,this]; rfl
theorem uP {p:UInt8→Bool}{b:UInt8}{q:List UInt8}(hb:¬ p b=true):∀ l:List UInt8,(l.takeWhile p ++ b :: q).takeWhile p=l.takeWhile p
 | []=>by rw[List.takeWhile_nil,List.nil_append,List.takeWhile_cons_of_neg hb]
 | a :: l => by
   by_cases h:p a=true
   ·rw[List.takeWhile_cons_of_pos h,List.cons_append,List.takeWhile_cons_of_pos h,uP hb l]
   ·rw[List.takeWhile_cons_of_neg h,List.nil_append,List.takeWhile_cons_of_neg hb]
theorem take_takeWhile {p:UInt8→Bool}:∀ l:List UInt8,l.take (l.takeWhile p).length=l.takeWhile p
 | []=>rfl
 | a :: l => by
   by_cases h:p a=true
   ·rw[List.takeWhile_cons_of_pos h,List.length_cons,List.take_succ_cons,take_takeWhile l]
   ·rw[List.takeWhile_cons_of_neg h]; rfl
theorem find_congr {α:Type}{p q:α→Bool}:∀{l:List α},(∀ x ∈ l,p x=q x)→l.find? p=l.find? q
 | [],_=>rfl
 | a :: l, h => by
   rw[List.find?_cons,List.find?_cons,h a List.mem_cons_self,find_congr fun x hx=>h x (List.mem_cons_of_mem _ hx)]
theorem ID {l w : List UInt8} (h : yN l = some w) {b : UInt8} {q : List UInt8} (h1 : b ≠ 61) (h2 : b ≠ 62) : yN (l.take w.length ++ b :: q) = some w := by
 have hs:=h
 unfold yN at h
 have hw:l.take w.length=w:=by
  have:=List.find?_some h
  exact of_decide_eq_true this
 have hm:=List.mem_of_find?_eq_some h
 have key:∀ w ∈ Aw,(w.length=1∧w ∉ MV)∨(w.length=2∧w ∈ MV∧(w[1]? =some 62∨w[1]? =some 61)):=by decide
 rw[hw,← hs]
 unfold yN
 refine find_congr fun v hv=>?_
 rcases key w hm with⟨k1,k2⟩ | ⟨k1,k2,k3⟩
 ·have hno:∀ x ∈ MV,¬ l.take x.length=x:=by
   intro x hx he
   unfold Aw at h
   rw[List.find?_append] at h
   cases hf:MV.find? (fun w=>decide (l.take w.length=w)) with
   | none =>
     have:=List.find?_eq_none.1 hf x hx
     exact this (decide_eq_true he)
   | some y =>
     rw[hf] at h
     have hy:=List.mem_of_find?_eq_some hf
     cases h
     exact k2 hy
  rcases key v hv with⟨v1,v2⟩ | ⟨v1,v2,v3⟩
  ·rw[v1]
   have e1:(w ++ b :: q).take 1=l.take 1:=by
    rw[List.take_append_of_le_length (by omega),← hw,k1,List.take_take]; rfl
   rw[e1]
  ·have e1:¬ (w ++ b :: q).take v.length=v:=by
    intro he
    rw[v1] at he
    have:((w ++ b :: q).take 2)[1]? =some b:=by
     rw[List.getElem?_take_of_lt (by omega),List.getElem?_append_right (by omega),k1]; rfl
    rw[he] at this
    rcases v3 with v3 | v3
    ·rw[v3] at this; exact h2 (Option.some.inj this).symm
    ·rw[v3] at this; exact h1 (Option.some.inj this).symm
   rw[decide_eq_false e1,decide_eq_false (hno v v2)]
 ·have e1:∀ n,n≤2→(w ++ b :: q).take n=l.take n:=by
   intro n hn
   rw[List.take_append_of_le_length (by omega),← hw,List.take_take,k1]
   congr 1; omega
  rw[e1 v.length (by rcases key v hv with⟨v1,_⟩ | ⟨v1,_⟩ <;> omega)]
def oU : List UInt8 → Option (Int × List UInt8 × Nat)
 | []=>none
 | c :: r =>
   if c=120∧r.head?=some 39 then(jU (r.drop 1)).bind fun q=>(unhex q.1).map fun b=>(5,b,q.2+2)
   else if Jf c.toNat=true then
    (if isKey ((c :: r).takeWhile fun c=>p7 c.toNat) then some (2,(c :: r).takeWhile fun c=>p7 c.toNat,((c :: r).takeWhile fun c=>p7 c.toNat).length) else if((c :: r).takeWhile fun c=>p7 c.toNat).length≤16 then some (1,(c :: r).takeWhile fun c=>p7 c.toNat,((c :: r).takeWhile fun c=>p7 c.toNat).length) else none)
   else if wW c.toNat=true then(if Em ((c :: r).takeWhile fun c=>wW c.toNat) then some (3,(c :: r).takeWhile fun c=>wW c.toNat,((c :: r).takeWhile fun c=>wW c.toNat).length) else none)
   else if c=39 then(jU r).map fun q=>(4,q.1,q.2+1)
   else(yN (c :: r)).map fun w=>(6,w,w.length)
theorem EA {s:List UInt8}{k:Nat}:pA s k=oU (s.drop k):=by
 unfold pA
 rcases Nat.lt_or_ge k s.length with h | h
 ·have e1:s[k+1]? =(s.drop (k+1)).head?:=by rw[List.head?_drop]
  have e2:s.drop (k+2)=(s.drop (k+1)).drop 1:=by rw[List.drop_drop]
  rw[List.getElem?_eq_getElem h,e1,e2]
  unfold eX eU
  rw[drop_cons h]
  rfl
 ·rw[List.getElem?_eq_none h,List.drop_eq_nil_of_le h]; rfl
theorem KX {c:UInt8}(h:oS c.toNat=true):c≠39∧ ¬ p7 c.toNat=true∧ ¬ wW c.toNat=true∧c≠61∧c≠62:=by
 have key:∀ n:Fin 256,oS n.1=true→n.1≠39∧ ¬ p7 n.1=true∧ ¬ wW n.1=true∧n.1≠61∧n.1≠62:=by decide +kernel
 obtain⟨h1,h2,h3,h4,h5⟩:=key ⟨c.toNat,c.toNat_lt⟩ h
 refine⟨?_,h2,h3,?_,?_⟩ <;> rintro rfl
 ·exact h1 rfl
 ·exact h4 rfl
 ·exact h5 rfl
theorem Ib {l : List UInt8} {kd : Int} {w : List UInt8} {n : Nat} (h : oU l = some (kd, w, n)) {b : UInt8} {q : List UInt8} (hb : oS b.toNat = true) : oU (l.take n ++ b :: q) = some (kd, w, n) := by
 obtain⟨b1,b2,b3,b4,b5⟩:=KX hb
 cases l with
 | nil=>cases h
 | cons c r =>
   have hx:=h
   simp only[oU] at h
   by_cases c1:c=120∧r.head?=some 39
   ·rw[if_pos c1] at h
    obtain⟨p,h1,h2⟩:=Option.bind_eq_some_iff.1 h
    obtain⟨u,m⟩:=p
    obtain⟨y,h3,h4⟩:=Option.map_eq_some_iff.1 h2
    cases h4
    cases r with
    | nil=>cases c1.2
    | cons a r' =>
      have ha:a=39:=by simpa using c1.2
      subst ha
      have:=yX h1 (q:=q) b1
      show oU (c :: 39 :: (r'.take m ++ b :: q))=_
      simp only[oU,List.head?_cons,List.drop_succ_cons,List.drop_zero] at this ⊢
      rw[if_pos ⟨c1.1,trivial⟩,this]
      simp only[Option.bind_some,h3,Option.map_some]
   ·rw[if_neg c1] at h
    by_cases c2:Jf c.toNat=true
    ·rw[if_pos c2] at h
     have hW:p7 c.toNat=true:=by simp[p7,c2]
     have hn:n=((c :: r).takeWhile fun c=>p7 c.toNat).length:=by
      split at h
      ·cases h; rfl
      ·split at h
       ·cases h; rfl
       ·cases h
     have e1:(c :: r).take n=(c :: r).takeWhile fun c=>p7 c.toNat:=by rw[hn]; exact take_takeWhile _
     have e2:=uP (p:=fun c=>p7 c.toNat) (b:=b) (q:=q) b2 (c :: r)
     rw[e1]
     rw[List.takeWhile_cons_of_pos (p:=fun c:UInt8=>p7 c.toNat) hW] at e2 h ⊢
     simp only[List.cons_append] at e2 ⊢
     have c3:¬ (c=120∧(r.takeWhile (fun c=>p7 c.toNat) ++ b :: q).head?=some 39):=by
      rintro⟨d1,d2⟩
      cases r with
      | nil=>simp at d2; exact b1 d2
      | cons a r' =>
        by_cases ha:p7 a.toNat=true
        ·rw[List.takeWhile_cons_of_pos (p:=fun c:UInt8=>p7 c.toNat) ha] at d2
         have:a=39:=by simpa using d2
         subst this
         exact absurd ha (by decide)
        ·rw[List.takeWhile_cons_of_neg (p:=fun c:UInt8=>p7 c.toNat) ha] at d2
         simp at d2; exact b1 d2
     simp only[oU]
     rw[if_neg c3,if_pos c2,e2]
     exact h
    ·rw[if_neg c2] at h
     have c0:c≠120:=by rintro rfl; exact c2 (by decide)
     by_cases c3:wW c.toNat=true
     ·rw[if_pos c3] at h
      have hn:n=((c :: r).takeWhile fun c=>wW c.toNat).length:=by
       split at h
       ·cases h; rfl
       ·cases h
      have e1:(c :: r).take n=(c :: r).takeWhile fun c=>wW c.toNat:=by rw[hn]; exact take_takeWhile _
      have e2:=uP (p:=fun c=>wW c.toNat) (b:=b) (q:=q) b3 (c :: r)
      rw[e1]
      rw[List.takeWhile_cons_of_pos (p:=fun c:UInt8=>wW c.toNat) c3] at e2 h ⊢
      simp only[List.cons_append] at e2 ⊢
      simp only[oU]
      rw[if_neg (fun h=>c0 h.1),if_neg c2,if_pos c3,e2]
      exact h
     ·rw[if_neg c3] at h
      by_cases c4:c=39
      ·rw[if_pos c4] at h
       obtain⟨p,h1,h2⟩:=Option.map_eq_some_iff.1 h
       obtain⟨u,m⟩:=p
       cases h2
       have:=yX h1 (q:=q) b1
       show oU (c :: (r.take m ++ b :: q))=_
       simp only[oU]
       rw[if_neg (fun h=>c0 h.1),if_neg c2,if_neg c3,if_pos c4,this]; rfl
      ·rw[if_neg c4] at h
       obtain⟨v,h1,h2⟩:=Option.map_eq_some_iff.1 h
       cases h2
       have h3:=ID h1 (q:=q) b4 b5
       obtain⟨l1,l2⟩:=BJ h1
       have h4:(c :: r).take w.length ++ b :: q=c :: (r.take (w.length - 1) ++ b :: q):=by
        cases hv:w.length with
        | zero=>omega
        | succ k=>rfl
       rw[h4] at h3 ⊢
       simp only[oU]
       rw[if_neg (fun h=>c0 h.1),if_neg c2,if_neg c3,if_neg c4,h3]; rfl
theorem AZ {l:List UInt8}{kd:Int}{w:List UInt8}{n:Nat}(h:oU l=some (kd,w,n)):1≤n∧n≤l.length:=by
 cases l with
 | nil=>cases h
 | cons c r =>
   have:=yH (s:=c :: r) (k:=0) (by simp) (by rw[EA]; exact h)
   omega
end
end Go.Proofs.YthodfojhbbendaaDoor
end
section
set_option linter.all false
set_option maxRecDepth 100000
set_option maxHeartbeats 1000000
namespace Go.Proofs.YthodfojhbbendaaDoor
open Go Go.Ev
noncomputable section
def jT (l:List UInt8):List UInt8:=l.dropWhile fun c=>oS c.toNat
theorem Fg (l:List UInt8):(jT l).length≤l.length:=List.Sublist.length_le (List.dropWhile_sublist _)
theorem Dr {s:List UInt8}{k:Nat}:s.drop (k+eU oS s k)=jT (s.drop k):=by
 unfold eU jT
 rw[← List.drop_drop]
 generalize s.drop k=l
 induction l with
 | nil=>rfl
 | cons a l ih =>
   by_cases h:oS a.toNat=true
   ·rw[List.takeWhile_cons_of_pos (p:=fun c:UInt8=>oS c.toNat) h,List.dropWhile_cons_of_pos (p:=fun c:UInt8=>oS c.toNat) h]
    exact ih
   ·rw[List.takeWhile_cons_of_neg (p:=fun c:UInt8=>oS c.toNat) h,List.dropWhile_cons_of_neg (p:=fun c:UInt8=>oS c.toNat) h]; rfl
def IE : Nat → List UInt8 → List (Int × List UInt8) × Bool
 | 0,_=>([],true)
 | f + 1, l => if l = [] then ([], true) else match oU l with
   | none=>([],false)
   | some (kd,w,n)=>((kd,w) :: (IE f (jT (l.drop n))).1,(IE f (jT (l.drop n))).2)
def kS (w:W):Int×List UInt8:=(w.1,w.2.1)
theorem OE (s : List UInt8) : ∀ (f j : Nat), j ≤ s.length → ((tk s f j).1.map kS = (IE f (s.drop j)).1) ∧ ((tk s f j).2 = none ↔ (IE f (s.drop j)).2 = true)
 | 0,j,_=>⟨rfl,by simp[tk,IE]⟩
 | f + 1, j, hj => by
   unfold tk IE
   by_cases hlt:j<s.length
   ·have hne:s.drop j≠[]:=by
     intro h
     have:=congrArg List.length h
     rw[List.length_drop,List.length_nil] at this
     omega
    rw[if_pos hlt,if_neg hne,EA]
    cases hw:oU (s.drop j) with
    | none=>exact⟨rfl,by simp⟩
    | some q =>
      obtain⟨kd,w,n⟩:=q
      have hl:=AZ hw
      rw[List.length_drop] at hl
      have hb:=mE oS s (j+n) (by omega)
      obtain⟨h1,h2⟩:=OE s f (j+n+eU oS s (j+n)) hb
      rw[Dr,← List.drop_drop] at h1 h2
      simp only[List.map_cons]
      exact⟨by rw[h1]; rfl,h2⟩
   ·rw[if_neg hlt,List.drop_eq_nil_of_le (by omega),if_pos rfl]
    exact⟨rfl,by simp⟩
def rs : Nat → List UInt8 → List UInt8
 | 0,_=>[]
 | f + 1, l => match oU l with
   | none=>[]
   | some (kd,w,n)=>((l.take n ++ (l.drop n).takeWhile fun c=>oS c.toNat) ++ [10]) ++ rs f (jT (l.drop n))
theorem IB (l:List UInt8):(l.takeWhile fun c=>oS c.toNat).length+(jT l).length=l.length:=by
 have:=congrArg List.length (List.takeWhile_append_dropWhile (p:=fun c:UInt8=>oS c.toNat) (l:=l))
 rw[List.length_append] at this
 exact this
theorem Lt:∀(f:Nat) (l:List UInt8),(rs f l).length≤2 * l.length
 | 0,l=>by simp[rs]
 | f + 1, l => by
   unfold rs
   cases hw:oU l with
   | none=>simp
   | some q =>
     obtain⟨kd,w,n⟩:=q
     have hl:=AZ hw
     have h1:=Lt f (jT (l.drop n))
     have h2:=IB (l.drop n)
     rw[List.length_drop] at h2
     simp only[List.length_append,List.length_take,List.length_cons,List.length_nil]
     omega
theorem Dv {l:List UInt8}:∀ c r,jT l=c :: r→ ¬ oS c.toNat=true:=by
 intro c r h hb
 unfold jT at h
 have:=List.head?_dropWhile_not (p:=fun c:UInt8=>oS c.toNat) l
 rw[h] at this
 simp only[List.head?_cons] at this
 rw[hb] at this
 cases this
theorem zG {q:List UInt8}:∀{b:List UInt8},(∀ c ∈ b,oS c.toNat=true)→jT (b ++ q)=jT q
 | [],_=>rfl
 | a :: b, h => by
   show jT (a :: (b ++ q))=_
   unfold jT
   rw[List.dropWhile_cons_of_pos (p:=fun c:UInt8=>oS c.toNat) (h a List.mem_cons_self)]
   exact zG fun c hc=>h c (List.mem_cons_of_mem _ hc)
theorem Jk {f : Nat} {l : List UInt8} (hl : ∀ c r, l = c :: r → ¬ oS c.toNat = true) : jT (rs f l) = rs f l := by
 cases f with
 | zero=>rfl
 | succ f =>
   unfold rs
   cases hw:oU l with
   | none=>rfl
   | some q =>
     obtain⟨kd,w,n⟩:=q
     have hln:=AZ hw
     cases l with
     | nil=>cases hw
     | cons c r =>
       have hn:n=(n - 1)+1:=by omega
       dsimp only
       rw[hn]
       simp only[List.take_succ_cons,List.cons_append]
       unfold jT
       rw[List.dropWhile_cons_of_neg (p:=fun c:UInt8=>oS c.toNat) (hl c r rfl)]
theorem Gy : ∀ (f f' : Nat) (l : List UInt8), (∀ c r, l = c :: r → ¬ oS c.toNat = true) → l.length < f → (rs f l).length < f' → (IE f l).2 = true → IE f' (rs f l) = IE f l
 | 0,f',l,_,h,_,_=>by omega
 | f+1,0,l,_,_,h,_=>by omega
 | f + 1, f' + 1, l, hb, hf, hf', oW => by
   by_cases he:l=[]
   ·subst he
    rfl
   ·unfold IE at oW
    rw[if_neg he] at oW
    have hr:rs (f+1) l=match oU l with
     | none=>[]
     | some (kd,w,n)=>((l.take n ++ (l.drop n).takeWhile fun c=>oS c.toNat) ++ [10]) ++ rs f (jT (l.drop n)):=rfl
    have ht:IE (f+1) l=match oU l with
     | none=>([],false)
     | some (kd,w,n)=>((kd,w) :: (IE f (jT (l.drop n))).1,(IE f (jT (l.drop n))).2):=by
     show(if l=[] then _ else _)=_
     rw[if_neg he]
    cases hw:oU l with
    | none=>rw[hw] at oW; cases oW
    | some q =>
      obtain⟨kd,w,n⟩:=q
      rw[hw] at hr ht oW
      dsimp only at hr ht oW
      have hln:=AZ hw
      have hB:∀ c r,jT (l.drop n)=c :: r→ ¬ oS c.toNat=true:=Dv
      have htw:∀ c ∈ (l.drop n).takeWhile (fun c=>oS c.toNat),oS c.toNat=true:=fun c hc=>xA (p:=fun c:UInt8=>oS c.toNat) hc
      have hlen:(jT (l.drop n)).length<f:=by
       have:=Fg (l.drop n)
       rw[List.length_drop] at this
       omega
      have hlen':(rs f (jT (l.drop n))).length<f':=by
       rw[hr] at hf'
       simp only[List.length_append,List.length_cons,List.length_nil,List.length_take] at hf'
       omega
      have ih:=Gy f f' (jT (l.drop n)) hB hlen hlen' oW
      have e1:rs (f+1) l=l.take n ++ (((l.drop n).takeWhile fun c=>oS c.toNat) ++ 10 :: rs f (jT (l.drop n))):=by
       rw[hr]; simp
      have hne:rs (f+1) l≠[]:=by
       rw[e1]
       intro h
       have:=congrArg List.length h
       simp only[List.length_append,List.length_take,List.length_nil] at this
       omega
      have e2:∃ b q,((l.drop n).takeWhile fun c=>oS c.toNat) ++ 10 :: rs f (jT (l.drop n))=b :: q∧oS b.toNat=true:=by
       cases hx:(l.drop n).takeWhile fun c=>oS c.toNat with
       | nil=>exact⟨10,_,rfl,by decide⟩
       | cons b q=>exact⟨b,_,rfl,htw b (by rw[hx]; exact List.mem_cons_self)⟩
      obtain⟨b,q,e3,hbb⟩:=e2
      have hw2:oU (rs (f+1) l)=some (kd,w,n):=by
       rw[e1,e3]
       exact Ib hw hbb
      have e4:jT ((rs (f+1) l).drop n)=rs f (jT (l.drop n)):=by
       rw[e1,List.drop_left' (by rw[List.length_take]; omega),zG htw]
       show jT ([10] ++ rs f (jT (l.drop n)))=_
       rw[zG (b:=[10]) (by intro c hc; simp at hc; subst hc; decide),Jk hB]
      have ht2:IE (f'+1) (rs (f+1) l)=((kd,w) :: (IE f' (jT ((rs (f+1) l).drop n))).1,(IE f' (jT ((rs (f+1) l).drop n))).2):=by
       show(if rs (f+1) l=[] then _ else _)=_
       rw[if_neg hne,hw2]
      rw[ht2,e4,ih,ht]
def uL (s:List UInt8):List W→List UInt8
 | w :: w' :: l=>((s.take w'.2.2.toNat).drop w.2.2.toNat ++ [10]) ++ uL s (w' :: l)
 | _=>[]
def LZ (n:Nat):List W→Prop
 | w :: w' :: l=>(∃ a b:Nat,w.2.2=(a:Int)∧w'.2.2=(b:Int)∧a≤b∧b≤n)∧LZ n (w' :: l)
 | _=>True
theorem MK {s:List UInt8}{f j:Nat}(hj:j≤s.length)(hf:s.length - j<f)(oW:(tk s f j).2=none):∃ w l,(tk s f j).1 ++ [(0,[],(s.length:Int))]=w :: l∧w.2.2=(j:Int):=by
 cases f with
 | zero=>omega
 | succ f =>
   unfold tk at oW ⊢
   by_cases hlt:j<s.length
   ·rw[if_pos hlt] at oW ⊢
    cases hw:pA s j with
    | none=>rw[hw] at oW; cases oW
    | some q=>exact⟨_,_,rfl,rfl⟩
   ·rw[if_neg hlt]
    exact⟨_,_,rfl,by show(s.length:Int)=_; omega⟩
theorem Oy (s : List UInt8) : ∀ (f j : Nat), j ≤ s.length → s.length - j < f → (tk s f j).2 = none → uL s ((tk s f j).1 ++ [(0, [], (s.length : Int))]) = rs f (s.drop j) ∧ LZ s.length ((tk s f j).1 ++ [(0, [], (s.length : Int))])
 | 0,j,_,h,_=>by omega
 | f + 1, j, hj, hf, oW => by
   by_cases hlt:j<s.length
   ·have ht:tk s (f+1) j=match pA s j with
     | none=>([],some j)
     | some (kd,w,n)=>((kd,w,(j:Int)) :: (tk s f (j+n+eU oS s (j+n))).1,(tk s f (j+n+eU oS s (j+n))).2):=by
     show(if j<s.length then _ else _)=_
     rw[if_pos hlt]
     cases pA s j <;> rfl
    rw[ht] at oW ⊢
    have hr:rs (f+1) (s.drop j)=match oU (s.drop j) with
     | none=>[]
     | some (kd,w,n)=>(((s.drop j).take n ++ ((s.drop j).drop n).takeWhile fun c=>oS c.toNat) ++ [10]) ++ rs f (jT ((s.drop j).drop n)):=rfl
    rw[hr,← EA]
    cases hw:pA s j with
    | none=>rw[hw] at oW; cases oW
    | some q =>
      obtain⟨kd,w,n⟩:=q
      rw[hw] at oW
      dsimp only at oW ⊢
      obtain⟨l1,l2⟩:=yH hlt hw
      have hb:=mE oS s (j+n) (by omega)
      obtain⟨h1,h2⟩:=Oy s f (j+n+eU oS s (j+n)) hb (by omega) oW
      obtain⟨w',l,e1,e2⟩:=MK hb (by omega) oW
      rw[List.cons_append]
      rw[e1] at h1 h2 ⊢
      refine⟨?_,⟨j,j+n+eU oS s (j+n),rfl,e2,by omega,hb⟩,h2⟩
      show((s.take w'.2.2.toNat).drop ((j:Int)).toNat ++ [10]) ++ uL s (w' :: l)=_
      rw[h1,e2,Dr,List.drop_drop]
      congr 2
      rw[Int.toNat_natCast,Int.toNat_natCast,List.drop_take]
      have e3:j+n+eU oS s (j+n) - j=n+eU oS s (j+n):=by omega
      rw[e3,List.take_add,List.drop_drop]
      congr 1
      show(s.drop (j+n)).take ((s.drop (j+n)).takeWhile fun c=>oS c.toNat).length=_
      exact take_takeWhile _
   ·have ht:tk s (f+1) j=([],none):=by
     show(if j<s.length then _ else _)=_
     rw[if_neg hlt]
    have hr:rs (f+1) (s.drop j)=[]:=by
     rw[List.drop_eq_nil_of_le (by omega)]; rfl
    rw[ht,hr]
    exact⟨rfl,trivial⟩
theorem G3 {t:List UInt8}(oW:(kL t).2=none):(kL (uL t (nE t))).2=none∧(kL (uL t (nE t))).1.map kS=(kL t).1.map kS∧LZ t.length (nE t)∧(uL t (nE t)).length≤2 * t.length:=by
 have hb:=mE oS t 0 (by omega)
 rw[Nat.zero_add] at hb
 obtain⟨h1,h2⟩:=Oy t (t.length+1) (eU oS t 0) hb (by omega) oW
 have hu:uL t (nE t)=rs (t.length+1) (t.drop (eU oS t 0)):=h1
 have hd:t.drop (eU oS t 0)=jT t:=by
  have:=Dr (s:=t) (k:=0)
  rwa [Nat.zero_add,List.drop_zero] at this
 rw[hd] at hu
 have hh:∀ c r,jT t=c :: r→ ¬ oS c.toNat=true:=Dv
 obtain⟨k1,k2⟩:=OE t (t.length+1) (eU oS t 0) hb
 rw[hd] at k1 k2
 have hl:=Lt (t.length+1) (jT t)
 have hdl:=Fg t
 have hr0:eU oS (uL t (nE t)) 0=0:=by
  have e:=Jk (f:=t.length+1) hh
  rw[← hu] at e
  have:=IB (uL t (nE t))
  rw[e] at this
  show((List.drop 0 (uL t (nE t))).takeWhile fun c=>oS c.toNat).length=0
  rw[List.drop_zero]
  omega
 obtain⟨m1,m2⟩:=OE (uL t (nE t)) ((uL t (nE t)).length+1) 0 (Nat.zero_le _)
 rw[List.drop_zero] at m1 m2
 have hsame:=Gy (t.length+1) ((uL t (nE t)).length+1) (jT t) hh (by omega) (by rw[hu]; omega) (k2.1 oW)
 rw[← hu] at hsame
 rw[hsame] at m1 m2
 refine⟨?_,?_,h2,by rw[hu]; omega⟩
 ·unfold kL
  rw[hr0]
  exact m2.2 (k2.1 oW)
 ·have e1:(kL (uL t (nE t))).1=(tk (uL t (nE t)) ((uL t (nE t)).length+1) 0).1:=by
   unfold kL
   rw[hr0]
  rw[e1,m1,← k1]; rfl
theorem N9 {l m:List W}(h:l.map kS=m.map kS):qJ l m:=by
 intro i
 have:=congrArg (fun x=>(x[i]?).getD (0,[])) h
 simp only[List.getElem?_map] at this
 unfold wd
 cases h1:l[i]? with
 | none =>
   cases h2:m[i]? with
   | none=>exact⟨rfl,rfl⟩
   | some b =>
     rw[h1,h2] at this
     exact⟨(Prod.mk.inj this).1,(Prod.mk.inj this).2⟩
 | some a =>
   cases h2:m[i]? with
   | none =>
     rw[h1,h2] at this
     exact⟨(Prod.mk.inj this).1,(Prod.mk.inj this).2⟩
   | some b =>
     rw[h1,h2] at this
     exact⟨(Prod.mk.inj this).1,(Prod.mk.inj this).2⟩
theorem N4 {t u:List UInt8}(h:(kL u).1.map kS=(kL t).1.map kS):qJ (nE u) (nE t):=by
 refine N9 ?_
 unfold nE
 rw[List.map_append,List.map_append,h]; rfl
end
end Go.Proofs.YthodfojhbbendaaDoor
end
section
set_option linter.all false
set_option maxRecDepth 100000
set_option maxHeartbeats 1000000
namespace Go.Proofs.YthodfojhbbendaaDoor
open Go Go.Ev
noncomputable section
theorem Nj:∀(l:List UInt8) (acc:Nat),(∀ c ∈ l,wW c.toNat=true)→acc * 10 ^ l.length+val l<10000000000000000000→Go.Lib.parseUint10 acc l=.ok (acc * 10 ^ l.length+val l)
 | [],acc,_,_=>by simp[Go.Lib.parseUint10,val]
 | c :: r, acc, h, hl => by
   have h2:=h c List.mem_cons_self
   simp only[wW,Bool.and_eq_true,decide_eq_true_eq] at h2
   rw[CQ,List.length_cons,Nat.pow_succ] at hl ⊢
   have hp:1≤10 ^ r.length:=Nat.pos_of_ne_zero (by exact Nat.ne_of_gt (Nat.pow_pos (by omega)))
   have e1:acc * (10 ^ r.length * 10)+((c.toNat - 48) * 10 ^ r.length+val r)=(acc * 10+(c.toNat - 48)) * 10 ^ r.length+val r:=by
    rw[Nat.add_mul,Nat.mul_assoc acc 10,Nat.mul_comm 10]; omega
   rw[e1] at hl ⊢
   have h3:(acc * 10+(c.toNat - 48)) * 1≤(acc * 10+(c.toNat - 48)) * 10 ^ r.length:=Nat.mul_le_mul_left _ hp
   simp only[Go.Lib.parseUint10]
   rw[if_pos ⟨by omega,by omega⟩,if_neg (by omega),if_neg (by omega)]
   exact Nj r _ (fun c hc=>h c (List.mem_cons_of_mem _ hc)) hl
theorem M6:val zL=9223372036854775807:=by decide
theorem Ok {w:List UInt8}(h0:w≠[])(hd:∀ c ∈ w,wW c.toNat=true)(hn:Em w=true):(rB w).isSome=true:=by
 unfold Em at hn
 simp only[Bool.and_eq_true,decide_eq_true_eq] at hn
 obtain⟨⟨h1,h2⟩,h3⟩:=hn
 have hv:=II hd
 have hp:10 ^ w.length≤10 ^ 19:=Nat.pow_le_pow_right (by omega) h2
 have hlt:val w<9223372036854775808:=by
  by_cases hl:w.length<19
  ·have:10 ^ w.length≤10 ^ 18:=Nat.pow_le_pow_right (by omega) (by omega)
   omega
  ·rw[decide_eq_false hl,Bool.false_or] at h3
   rw[La (by show w.length=19; omega) hd (by decide),decide_eq_true_eq,M6] at h3
   omega
 have hq:=Nj w 0 hd (by omega)
 rw[Nat.zero_mul,Nat.zero_add] at hq
 cases w with
 | nil=>exact absurd rfl h0
 | cons c r =>
   have hc:=hd c List.mem_cons_self
   simp only[wW,Bool.and_eq_true,decide_eq_true_eq] at hc
   have e:Go.Lib.parseIntB 64 (c :: r)=.ok ((val (c :: r):Nat):Int):=by
    rw[Go.Lib.parseIntB_64,Go.Lib.atoiAll_plain c r (by omega) (by omega)]
    unfold Go.Lib.parseMag
    rw[if_neg (by simp),hq]
    simp only[Go.Lib.signless]
    rw[if_neg (by omega)]
   unfold rB
   rw[e]
   dsimp only
   rw[iE (Nat.ble_eq_true_of_le (by unfold iT; omega))]; rfl
theorem Gs {s : List UInt8} {k : Nat} {kd : Int} {w : List UInt8} {n : Nat} (hk : k < s.length) (h : pA s k = some (kd, w, n)) : w.length ≤ s.length ∧ kd ≠ 0 ∧ (kd = 3 → (rB w).isSome = true) := by
 unfold pA at h
 rw[List.getElem?_eq_getElem hk] at h
 dsimp only at h
 split at h
 ·obtain⟨q,h1,h2⟩:=Option.bind_eq_some_iff.1 h
  obtain⟨b,h3,h4⟩:=Option.map_eq_some_iff.1 h2
  cases h4
  have:=rS _ _ _ h1
  have h5:=CZ _ _ h3
  rw[List.length_drop] at this
  exact⟨by omega,by decide,fun h=>absurd h (by decide)⟩
 ·split at h
  ·have hp:=Ae p7 s k
   have hr:=mE p7 s k (by omega)
   split at h
   ·cases h
    exact⟨by omega,by decide,fun h=>absurd h (by decide)⟩
   ·split at h
    ·cases h
     exact⟨by omega,by decide,fun h=>absurd h (by decide)⟩
    ·cases h
  ·split at h
   ·rename_i hD
    have hp:=Ae wW s k
    have hr:=mE wW s k (by omega)
    split at h
    ·rename_i hn
     cases h
     obtain⟨r,hr2⟩:=BF hk hD
     exact⟨by omega,by decide,fun _=>Ok (by rw[hr2]; simp) Fm hn⟩
    ·cases h
   ·split at h
    ·obtain⟨q,h1,h2⟩:=Option.map_eq_some_iff.1 h
     cases h2
     have:=rS _ _ _ h1
     rw[List.length_drop] at this
     exact⟨by omega,by decide,fun h=>absurd h (by decide)⟩
    ·obtain⟨v,h1,h2⟩:=Option.map_eq_some_iff.1 h
     cases h2
     have:=BJ h1
     rw[List.length_drop] at this
     exact⟨by omega,by decide,fun h=>absurd h (by decide)⟩
theorem IJ {s : List UInt8} : ∀ (f j : Nat), ∀ w ∈ (tk s f j).1, w.2.1.length ≤ s.length ∧ w.1 ≠ 0 ∧ (w.1 = 3 → (rB w.2.1).isSome = true)
 | 0,_,w,h=>by cases h
 | f + 1, j, w, h => by
   unfold tk at h
   split at h
   ·rename_i hlt
    split at h
    ·cases h
    ·rename_i kd v n hw
     rcases List.mem_cons.1 h with rfl | h
     ·exact Gs hlt hw
     ·exact IJ f _ w h
   ·cases h
theorem HS {s : List UInt8} : ∀ (f j : Nat), (tk s f j).1.length ≤ s.length - j
 | 0,_=>Nat.zero_le _
 | f + 1, j => by
   unfold tk
   split
   ·rename_i hlt
    split
    ·exact Nat.zero_le _
    ·rename_i kd v n hw
     obtain⟨l1,l2⟩:=yH hlt hw
     have:=HS (s:=s) f (j+n+eU oS s (j+n))
     simp only[List.length_cons]
     omega
   ·exact Nat.zero_le _
theorem Ds {s:List UInt8}:(nE s).length≤s.length+1:=by
 have:=HS (s:=s) (s.length+1) (eU oS s 0)
 unfold nE kL
 simp only[List.length_append,List.length_cons,List.length_nil]
 omega
theorem MH {s:List UInt8}(i:Nat):wd (nE s) i ∈ (kL s).1∨((wd (nE s) i).1=0∧(wd (nE s) i).2.1=[]):=by
 unfold wd nE
 rcases Nat.lt_trichotomy i (kL s).1.length with h | h | h
 ·rw[List.getElem?_append_left h,List.getElem?_eq_getElem h]
  exact .inl (List.getElem_mem h)
 ·rw[List.getElem?_append_right (by omega),h,Nat.sub_self]
  exact .inr ⟨rfl,rfl⟩
 ·rw[List.getElem?_eq_none (by simp; omega)]
  exact .inr ⟨rfl,rfl⟩
theorem P8 {s : List UInt8} (hs : s.length ≤ 2000) : Wf (nE s) := by
 have hl:=Ds (s:=s)
 refine⟨fun i hi hk=>?_,fun i=>?_,by omega,fun i hk=>?_⟩
 ·rcases Nat.lt_or_ge (i+1) (nE s).length with h | h
  ·exact h
  ·exfalso
   have e:i=(kL s).1.length:=by
    unfold nE at h hi
    simp only[List.length_append,List.length_cons,List.length_nil] at h hi
    omega
   apply hk
   unfold wd nE
   rw[List.getElem?_append_right (by omega),e,Nat.sub_self]; rfl
 ·rcases MH (s:=s) i with h | h
  ·have:=(IJ _ _ _ h).1
   omega
  ·rw[h.2]; exact Nat.zero_le _
 ·rcases MH (s:=s) i with h | h
  ·exact(IJ _ _ _ h).2.2 hk
  ·rw[h.1] at hk; cases hk
end
end Go.Proofs.YthodfojhbbendaaDoor
end
section
set_option linter.all false
set_option maxRecDepth 100000
namespace Go.Proofs.YthodfojhbbendaaDoor
open Go Go.Ev
noncomputable section
theorem mT (R n:Nat)(st:St)(r:Bool)(h:xI R=some r):b7 (aR C0 cK R (n+1)) false 9 [] st (.bool r) st:=by
 obtain rfl:=cB h;exact lE (by kernel_rfl) st
noncomputable def lQ (R:Nat)(a:Nat)(b:AV)(c:Nat):Option (Unit):=
 some ()
theorem xG {R:Nat}(n:Nat){a:Nat}{b:AV}{c:Nat}(d:St){r:Unit}(h:lQ R a b c=some r):
 cM 55 (bN C0 (aR C0 cK R (n+24006)) 8 R none (aQ C0.P 8 [1,1,1,1,1,0,1])) (bG (aQ C0.P 8 [1,1,1,1,1,0,1])) [(2,(.ref a 0)),(8,b),(9,(.ref c 0)),(37,(.bool false))] d .normal [] d:=by
 revert h;unfold lQ;intro h;obtain rfl:=cB h;exact aO (hs:=[.aJ]) (want:=[]) (by kernel_rfl) .nil
noncomputable def kM (R:Nat)(d:Nat)(a:AV)(e:Nat)(b:St):Option (St):=
 (bJ R a 120 b).bind fun c=>
 some c
theorem vD {R:Nat}(n:Nat){a:Nat}{b:AV}{c:Nat}{d:St}{r:St}(h:kM R a b c d=some r):
 cM 55 (bN C0 (aR C0 cK R (n+24006)) 8 R none (aQ C0.P 8 [1,1,1,1,1,0,1])) (bG (aQ C0.P 8 [1,1,1,1,1,0,1])) [(2,(.ref a 0)),(8,b),(9,(.ref c 0)),(37,(.bool true))] d .normal [] r:=by
 revert h;unfold kM;refine aA fun e f=>?_;intro h;obtain rfl:=cB h;exact aO (hs:=[.aJ,.run 1,.call (.tuple []) e]) (want:=[]) (by kernel_rfl) (aK (bO (n+24005) f) gD)
noncomputable def jY (R:Nat)(v:List UInt8)(b:St):Option (Int×List UInt8×List UInt8×Int×List UInt8×Int×Bool×Int×List UInt8×AV×AV×AV×AV×AV×AV×Int×List UInt8×Int×Bool×Int×List UInt8×AV×AV×AV×AV×AV×Bool×Bool×List UInt8×Bool×Int×Int×Int×St):=
 (qH R v (St.push b (.cells 34 true [(.int .i64 0),(.str []),(.str []),(.int .i64 0),(.str []),(.int .i64 0),(.bool false),(.int .i64 0),(.str []),AV.aB,AV.aB,AV.aB,AV.aB,AV.aB,AV.aB,(.int .i64 0),(.str []),(.int .i64 0),(.bool false),(.int .i64 0),(.str []),AV.aB,AV.aB,AV.aB,AV.aB,AV.aB,(.bool false),(.bool false),(.str []),(.bool false),(.int .i64 0)]))).bind fun(j,w,k,l)=>
 if (k = 0) then
  (AQ j).bind fun _=>
  (qP 51 (.agg [j,(.int .i64 0),(.int .i64 0),(.int .i64 0),(.int .i64 0),(.int .i64 0)]) l).bind fun(a,x)=>
  (kQ R a x).bind fun(y,z,A,B,C,D,E,F,G,H,I,J,K,L,M,N,O,Q,S,T,U,V,W,X,Y,Z,a0,a1,a2,a3,a4,d)=>
  (storeAt C0.P (St.push d (.cells 34 true [(.int .i64 0),(.str []),(.str []),(.int .i64 0),(.str []),(.int .i64 0),(.bool false),(.int .i64 0),(.str []),AV.aB,AV.aB,AV.aB,AV.aB,AV.aB,AV.aB,(.int .i64 0),(.str []),(.int .i64 0),(.bool false),(.int .i64 0),(.str []),AV.aB,AV.aB,AV.aB,AV.aB,AV.aB,(.bool false),(.bool false),(.str []),(.bool false),(.int .i64 0)])) 34 (.ref (St.next d) 0) (.agg [(.int .i64 y),(.str z),(.str A),(.int .i64 B),(.str C),(.int .i64 D),(.bool E),(.int .i64 F),(.str G),H,I,J,K,L,M,(.int .i64 N),(.str O),(.int .i64 Q),(.bool S),(.int .i64 T),(.str U),V,W,X,Y,Z,(.bool a0),(.bool a1),(.str a2),(.bool a3),(.int .i64 a4)])).bind fun c=>
  (aZ a).bind fun _=>
  (shift a 0).bind fun a5=>
  (loadAt C0.P c 40 a5).bind fun a6=>
  (aZ a).bind fun _=>
  (shift a 1).bind fun a7=>
  (loadAt C0.P c 3 a7).bind fun a8=>
  (eP .i64 a8).bind fun a9=>
  (cV C0.P 40 a6 (.int .i64 a9)).bind fun b0=>
  (shift b0 0).bind fun b1=>
  (loadAt C0.P c 3 b1).bind fun b2=>
  (eP .i64 b2).bind fun b3=>
  if (b3 = 0) then
   (lQ R (St.next b) a (St.next d)).bind fun _=>
   (aZ a).bind fun _=>
   (shift a 5).bind fun m=>
   (loadAt C0.P c 35 m).bind fun b4=>
   (eP .i64 b4).bind fun h=>
   if(h=0) then
    (loadAt C0.P c 34 (.ref (St.next d) 0)).bind fun b5=>
    (aD b5).bind fun(b6,b7,b8,b9,c0,c1,c2,c3,c4,c5,c6,c7,c8,c9,d0,d1,d2,d3,d4,d5,d6,d7,d8,d9,e0,e1,e2,e3,e4,e5,e6)=>
    (storeAt C0.P c 34 (.ref (St.next b) 0) (.agg [(.int .i64 b6),(.str b7),(.str b8),(.int .i64 b9),(.str c0),(.int .i64 c1),(.bool c2),(.int .i64 c3),(.str c4),c5,c6,c7,c8,c9,d0,(.int .i64 d1),(.str d2),(.int .i64 d3),(.bool d4),(.int .i64 d5),(.str d6),d7,d8,d9,e0,e1,(.bool e2),(.bool e3),(.str e4),(.bool e5),(.int .i64 e6)])).bind fun n=>
    (loadAt C0.P n 34 (.ref (St.next b) 0)).bind fun e7=>
    (aD e7).bind fun(e8,e9,f0,f1,f2,f3,f4,f5,f6,f7,f8,f9,g0,g1,g2,g3,g4,g5,g6,g7,g8,g9,h0,h1,h2,h3,h4,h5,h6,h7,h8)=>
    some (e8,e9,f0,f1,f2,f3,f4,f5,f6,f7,f8,f9,g0,g1,g2,g3,g4,g5,g6,g7,g8,g9,h0,h1,h2,h3,h4,h5,h6,h7,h8,0,0,n)
   else
    (aZ a).bind fun _=>
    (shift a 4).bind fun o=>
    (loadAt C0.P c 3 o).bind fun h9=>
    (eP .i64 h9).bind fun p=>
    (aZ a).bind fun _=>
    (storeAt C0.P c 34 (.ref (St.next b) 0) (.agg [(.int .i64 0),(.str []),(.str []),(.int .i64 0),(.str []),(.int .i64 0),(.bool false),(.int .i64 0),(.str []),AV.aB,AV.aB,AV.aB,AV.aB,AV.aB,AV.aB,(.int .i64 0),(.str []),(.int .i64 0),(.bool false),(.int .i64 0),(.str []),AV.aB,AV.aB,AV.aB,AV.aB,AV.aB,(.bool false),(.bool false),(.str []),(.bool false),(.int .i64 0)])).bind fun f=>
    (loadAt C0.P f 35 m).bind fun i0=>
    if AV.beq i0 (.int .i64 h)=true then
     (loadAt C0.P f 3 o).bind fun i1=>
     if AV.beq i1 (.int .i64 p)=true then
      (loadAt C0.P f 34 (.ref (St.next b) 0)).bind fun i2=>
      (aD i2).bind fun(i3,i4,i5,i6,i7,i9,j0,j1,j2,j3,j4,j5,j6,j7,j8,j9,k0,k1,k2,k3,k4,k5,k6,k7,k8,k9,l0,l1,l2,l3,l4)=>
      some (i3,i4,i5,i6,i7,i9,j0,j1,j2,j3,j4,j5,j6,j7,j8,j9,k0,k1,k2,k3,k4,k5,k6,k7,k8,k9,l0,l1,l2,l3,l4,p,h,f)
     else
      none
    else
     none
  else
   (kM R (St.next b) a (St.next d) c).bind fun e=>
   (aZ a).bind fun _=>
   (shift a 5).bind fun q=>
   (loadAt C0.P e 35 q).bind fun l5=>
   (eP .i64 l5).bind fun i=>
   if(i=0) then
    (loadAt C0.P e 34 (.ref (St.next d) 0)).bind fun l6=>
    (aD l6).bind fun(l7,l8,l9,m0,m1,m2,m3,m4,m5,m6,m7,m8,m9,n0,n1,n2,n3,n4,n5,n6,n7,n8,n9,o0,o1,o2,o3,o4,o5,o6,o7)=>
    (storeAt C0.P e 34 (.ref (St.next b) 0) (.agg [(.int .i64 l7),(.str l8),(.str l9),(.int .i64 m0),(.str m1),(.int .i64 m2),(.bool m3),(.int .i64 m4),(.str m5),m6,m7,m8,m9,n0,n1,(.int .i64 n2),(.str n3),(.int .i64 n4),(.bool n5),(.int .i64 n6),(.str n7),n8,n9,o0,o1,o2,(.bool o3),(.bool o4),(.str o5),(.bool o6),(.int .i64 o7)])).bind fun r=>
    (loadAt C0.P r 34 (.ref (St.next b) 0)).bind fun o8=>
    (aD o8).bind fun(o9,p0,p1,p2,p3,p4,p5,p6,p7,p8,p9,q0,q1,q2,q3,q4,q5,q6,q7,q8,q9,r0,r1,r2,r3,r4,r5,r6,r7,r8,r9)=>
    some (o9,p0,p1,p2,p3,p4,p5,p6,p7,p8,p9,q0,q1,q2,q3,q4,q5,q6,q7,q8,q9,r0,r1,r2,r3,r4,r5,r6,r7,r8,r9,0,0,r)
   else
    (aZ a).bind fun _=>
    (shift a 4).bind fun s=>
    (loadAt C0.P e 3 s).bind fun s0=>
    (eP .i64 s0).bind fun t=>
    (aZ a).bind fun _=>
    (storeAt C0.P e 34 (.ref (St.next b) 0) (.agg [(.int .i64 0),(.str []),(.str []),(.int .i64 0),(.str []),(.int .i64 0),(.bool false),(.int .i64 0),(.str []),AV.aB,AV.aB,AV.aB,AV.aB,AV.aB,AV.aB,(.int .i64 0),(.str []),(.int .i64 0),(.bool false),(.int .i64 0),(.str []),AV.aB,AV.aB,AV.aB,AV.aB,AV.aB,(.bool false),(.bool false),(.str []),(.bool false),(.int .i64 0)])).bind fun g=>
    (loadAt C0.P g 35 q).bind fun s1=>
    if AV.beq s1 (.int .i64 i)=true then
     (loadAt C0.P g 3 s).bind fun s2=>
     if AV.beq s2 (.int .i64 t)=true then
      (loadAt C0.P g 34 (.ref (St.next b) 0)).bind fun s3=>
      (aD s3).bind fun(s4,s5,s6,s7,s8,s9,t0,t1,t2,t3,t4,t5,t6,t7,t8,t9,u0,u1,u2,u3,u4,u5,u6,u7,u9,v0,v1,v2,v3,v4,v5)=>
      some (s4,s5,s6,s7,s8,s9,t0,t1,t2,t3,t4,t5,t6,t7,t8,t9,u0,u1,u2,u3,u4,u5,u6,u7,u9,v0,v1,v2,v3,v4,v5,t,i,g)
     else
      none
    else
     none
 else
  (storeAt C0.P l 34 (.ref (St.next b) 0) (.agg [(.int .i64 0),(.str []),(.str []),(.int .i64 0),(.str []),(.int .i64 0),(.bool false),(.int .i64 0),(.str []),AV.aB,AV.aB,AV.aB,AV.aB,AV.aB,AV.aB,(.int .i64 0),(.str []),(.int .i64 0),(.bool false),(.int .i64 0),(.str []),AV.aB,AV.aB,AV.aB,AV.aB,AV.aB,(.bool false),(.bool false),(.str []),(.bool false),(.int .i64 0)])).bind fun u=>
  (loadAt C0.P u 34 (.ref (St.next b) 0)).bind fun v6=>
  (aD v6).bind fun(v7,v8,v9,w0,w1,w2,w3,w4,w5,w6,w7,w8,w9,x0,x1,x2,x3,x4,x5,x6,x7,x8,x9,y0,y1,y2,y3,y4,y5,y6,y7)=>
  some (v7,v8,v9,w0,w1,w2,w3,w4,w5,w6,w7,w8,w9,x0,x1,x2,x3,x4,x5,x6,x7,x8,x9,y0,y1,y2,y3,y4,y5,y6,y7,w,k,u)
theorem pQ {R : Nat} (n : Nat) {a7 : List UInt8} {a8 : St} {r : Int × List UInt8 × List UInt8 × Int × List UInt8 × Int × Bool × Int × List UInt8 × AV × AV × AV × AV × AV × AV × Int × List UInt8 × Int × Bool × Int × List UInt8 × AV × AV × AV × AV × AV × Bool × Bool × List UInt8 × Bool × Int × Int × Int × St} (h : jY R a7 a8 = some r):
 b7 (aR C0 cK R (n+24007)) false 8 [(.str a7)] a8 (.tuple [(.agg [.int .i64 r.1,.str r.2.1,.str r.2.2.1,.int .i64 r.2.2.2.1,.str r.2.2.2.2.1,.int .i64 r.2.2.2.2.2.1,.bool r.2.2.2.2.2.2.1,.int .i64 r.2.2.2.2.2.2.2.1,.str r.2.2.2.2.2.2.2.2.1,r.2.2.2.2.2.2.2.2.2.1,r.2.2.2.2.2.2.2.2.2.2.1,r.2.2.2.2.2.2.2.2.2.2.2.1,r.2.2.2.2.2.2.2.2.2.2.2.2.1,r.2.2.2.2.2.2.2.2.2.2.2.2.2.1,r.2.2.2.2.2.2.2.2.2.2.2.2.2.2.1,.int .i64 r.2.2.2.2.2.2.2.2.2.2.2.2.2.2.2.1,.str r.2.2.2.2.2.2.2.2.2.2.2.2.2.2.2.2.1,.int .i64 r.2.2.2.2.2.2.2.2.2.2.2.2.2.2.2.2.2.1,.bool r.2.2.2.2.2.2.2.2.2.2.2.2.2.2.2.2.2.2.1,.int .i64 r.2.2.2.2.2.2.2.2.2.2.2.2.2.2.2.2.2.2.2.1,.str r.2.2.2.2.2.2.2.2.2.2.2.2.2.2.2.2.2.2.2.2.1,r.2.2.2.2.2.2.2.2.2.2.2.2.2.2.2.2.2.2.2.2.2.1,r.2.2.2.2.2.2.2.2.2.2.2.2.2.2.2.2.2.2.2.2.2.2.1,r.2.2.2.2.2.2.2.2.2.2.2.2.2.2.2.2.2.2.2.2.2.2.2.1,r.2.2.2.2.2.2.2.2.2.2.2.2.2.2.2.2.2.2.2.2.2.2.2.2.1,r.2.2.2.2.2.2.2.2.2.2.2.2.2.2.2.2.2.2.2.2.2.2.2.2.2.1,.bool r.2.2.2.2.2.2.2.2.2.2.2.2.2.2.2.2.2.2.2.2.2.2.2.2.2.2.1,.bool r.2.2.2.2.2.2.2.2.2.2.2.2.2.2.2.2.2.2.2.2.2.2.2.2.2.2.2.1,.str r.2.2.2.2.2.2.2.2.2.2.2.2.2.2.2.2.2.2.2.2.2.2.2.2.2.2.2.2.1,.bool r.2.2.2.2.2.2.2.2.2.2.2.2.2.2.2.2.2.2.2.2.2.2.2.2.2.2.2.2.2.1,.int .i64 r.2.2.2.2.2.2.2.2.2.2.2.2.2.2.2.2.2.2.2.2.2.2.2.2.2.2.2.2.2.2.1]),(.int .i64 r.2.2.2.2.2.2.2.2.2.2.2.2.2.2.2.2.2.2.2.2.2.2.2.2.2.2.2.2.2.2.2.1),(.int .i64 r.2.2.2.2.2.2.2.2.2.2.2.2.2.2.2.2.2.2.2.2.2.2.2.2.2.2.2.2.2.2.2.2.1)]) r.2.2.2.2.2.2.2.2.2.2.2.2.2.2.2.2.2.2.2.2.2.2.2.2.2.2.2.2.2.2.2.2.2:=by
 revert h;unfold jY;refine aA fun o b9=>?_;obtain⟨b,d,e,f⟩:=o;have q9001:=aK (yM (n+24003) b9) gD
 refine bD (fun Z=>?_) (fun Z=>?_)
 ·refine aA fun _o c0=>?_;refine aA fun o c1=>?_;obtain⟨a,g⟩:=o;refine aA fun o c2=>?_;obtain⟨i,j,k,l,m,p,q,s,t,u,v,w,x,y,z,A,B,C,D,E,F,G,H,I,J,K,L,M,N,O,P,Q⟩:=o;refine aA fun c c3=>?_;refine aA fun _o c4=>?_;refine aA fun S c5=>?_;refine aA fun T c6=>?_;refine aA fun _o c7=>?_;refine aA fun U c8=>?_;refine aA fun E4 c9=>?_;refine aA fun V d0=>?_;obtain rfl:=cA d0;refine aA fun W d1=>?_;refine aA fun X d2=>?_;refine aA fun E5 d3=>?_;refine aA fun Y d4=>?_;obtain rfl:=cA d4;have q9002:=aK d3<|aK d2<|aK d1<|aK c9<|aK c8<|aK (cC c7)<|aK c6<|aK c5<|aK (cC c4)<|aK (aP c3)<|aK (yR n c2)<|aK (xK c1)<|aK (nH (rE c0) (zA))<|aK (vR Z) q9001
  refine bD (fun a0=>?_) (fun a0=>?_)
  ·refine aA fun _o d5=>?_;refine aA fun _o d6=>?_;refine aA fun a1 a9=>?_;refine aA fun E6 b0=>?_;refine aA fun a2 d7=>?_;obtain rfl:=cA d7;have q9003:=aK b0<|aK a9<|aK (cC d6)<|aK (xG n c d5)<|aK (vR a0) q9002
   refine bD (fun a3=>?_) (fun a3=>?_)
   ·refine aA fun E7 d8=>?_;refine aA fun o d9=>?_;obtain⟨e0,e1,e2,e3,e4,e5,e6,e7,e8,e9,f0,f1,f2,f3,f4,f5,f6,f7,f8,f9,g0,g1,g2,g3,g4,g5,g6,g7,g8,g9,h0⟩:=o;obtain rfl:=aF d9;refine aA fun h1 h2=>?_;refine aA fun E8 h3=>?_;refine aA fun o h4=>?_;obtain⟨h5,h6,h7,h8,h9,i0,i1,i2,i3,i4,i5,i6,i7,i9,j0,j1,j2,j3,j4,j5,j6,j7,j8,j9,k0,k1,k2,k3,k4,k5,k6⟩:=o;obtain rfl:=aF h4;intro h;obtain rfl:=cB h;exact aL (hs:=[.run 4,.call (.tuple [b,(.int .i64 d),(.int .i64 e)]) f,.run 8,.dec false,.aJ,.run 1,.JY [[b]],.bM a g,.run 2,.call (aG i j k l m p q s t u v w x y z A B C D E F G H I J K L M N O P) Q,.run 1,.bM AV.undef c,.run 1,.val a,.val S,.val T,.run 1,.val a,.val U,.val (.int .i64 V),.val W,.val X,.val (.int .i64 Y),.dec false,.eE [2,8,9,37] .normal [] c,.run 1,.val a,.val a1,.val (.int .i64 a2),.dec false,.aJ,.val (aG e0 e1 e2 e3 e4 e5 e6 e7 e8 e9 f0 f1 f2 f3 f4 f5 f6 f7 f8 f9 g0 g1 g2 g3 g4 g5 g6 g7 g8 g9 h0),.bM AV.undef h1,.run 2,.val (aG h5 h6 h7 h8 h9 i0 i1 i2 i3 i4 i5 i6 i7 i9 j0 j1 j2 j3 j4 j5 j6 j7 j8 j9 k0 k1 k2 k3 k4 k5 k6)]) (by kernel_rfl) (aK h3<|aK (aP h2)<|aK d8<|aK (vR a3) q9003) (by kernel_rfl) (by kernel_rfl)
   ·refine aA fun _o k7=>?_;refine aA fun k8 k9=>?_;refine aA fun E9 l0=>?_;refine aA fun l1 l2=>?_;obtain rfl:=cA l2;refine aA fun _o l3=>?_;refine aA fun l4 l5=>?_;refine aA fun F0 l6=>?_;refine bD (fun b1=>?_) (fun b1=>?_)
    ·refine aA fun F1 l7=>?_;refine bD (fun b2=>?_) (fun b2=>?_)
     ·refine aA fun F2 l8=>?_;refine aA fun o l9=>?_;obtain⟨m0,m1,m2,m3,m4,m5,m6,m7,m8,m9,n0,n1,n2,n3,n4,n5,n6,n7,n8,n9,o0,o1,o2,o3,o4,o5,o6,o7,o8,o9,p0⟩:=o;obtain rfl:=aF l9;intro h;obtain rfl:=cB h;exact aL (hs:=[.run 4,.call (.tuple [b,(.int .i64 d),(.int .i64 e)]) f,.run 8,.dec false,.aJ,.run 1,.JY [[b]],.bM a g,.run 2,.call (aG i j k l m p q s t u v w x y z A B C D E F G H I J K L M N O P) Q,.run 1,.bM AV.undef c,.run 1,.val a,.val S,.val T,.run 1,.val a,.val U,.val (.int .i64 V),.val W,.val X,.val (.int .i64 Y),.dec false,.eE [2,8,9,37] .normal [] c,.run 1,.val a,.val a1,.val (.int .i64 a2),.dec true,.aJ,.run 2,.val a,.val k8,.val (.int .i64 l1),.run 1,.val a,.val a1,.val (.int .i64 a2),.bM AV.undef l4,.run 2,.val (aG m0 m1 m2 m3 m4 m5 m6 m7 m8 m9 n0 n1 n2 n3 n4 n5 n6 n7 n8 n9 o0 o1 o2 o3 o4 o5 o6 o7 o8 o9 p0)]) (by kernel_rfl) (aK l8<|aK (jE l6 b1)<|aK (jE l7 b2)<|aK (aP l5)<|aK b0<|aK a9<|aK (cC l3)<|aK l0<|aK k9<|aK (cC k7)<|aK (B7 a3) q9003) (by kernel_rfl) (by kernel_rfl)
     ·exact fun h=>nomatch h
    ·exact fun h=>nomatch h
  ·refine aA fun b3 p1=>?_;refine aA fun _o p2=>?_;refine aA fun a4 b4=>?_;refine aA fun F3 b5=>?_;refine aA fun a5 p3=>?_;obtain rfl:=cA p3;have q9004:=aK b5<|aK b4<|aK (cC p2)<|aK (vD n p1)<|aK (B7 a0) q9002
   refine bD (fun a6=>?_) (fun a6=>?_)
   ·refine aA fun F4 p4=>?_;refine aA fun o p5=>?_;obtain⟨p6,p7,p8,p9,q0,q1,q2,q3,q4,q5,q6,q7,q8,q9,r0,r1,r2,r3,r4,r5,r6,r7,r8,r9,s0,s1,s2,s3,s4,s5,s6⟩:=o;obtain rfl:=aF p5;refine aA fun s7 s8=>?_;refine aA fun F5 s9=>?_;refine aA fun o t0=>?_;obtain⟨t1,t2,t3,t4,t5,t6,t7,t8,t9,u0,u1,u2,u3,u4,u5,u6,u7,u9,v0,v1,v2,v3,v4,v5,v6,v7,v8,v9,w0,w1,w2⟩:=o;obtain rfl:=aF t0;intro h;obtain rfl:=cB h;exact aL (hs:=[.run 4,.call (.tuple [b,(.int .i64 d),(.int .i64 e)]) f,.run 8,.dec false,.aJ,.run 1,.JY [[b]],.bM a g,.run 2,.call (aG i j k l m p q s t u v w x y z A B C D E F G H I J K L M N O P) Q,.run 1,.bM AV.undef c,.run 1,.val a,.val S,.val T,.run 1,.val a,.val U,.val (.int .i64 V),.val W,.val X,.val (.int .i64 Y),.dec true,.eE [2,8,9,37] .normal [] b3,.run 1,.val a,.val a4,.val (.int .i64 a5),.dec false,.aJ,.val (aG p6 p7 p8 p9 q0 q1 q2 q3 q4 q5 q6 q7 q8 q9 r0 r1 r2 r3 r4 r5 r6 r7 r8 r9 s0 s1 s2 s3 s4 s5 s6),.bM AV.undef s7,.run 2,.val (aG t1 t2 t3 t4 t5 t6 t7 t8 t9 u0 u1 u2 u3 u4 u5 u6 u7 u9 v0 v1 v2 v3 v4 v5 v6 v7 v8 v9 w0 w1 w2)]) (by kernel_rfl) (aK s9<|aK (aP s8)<|aK p4<|aK (vR a6) q9004) (by kernel_rfl) (by kernel_rfl)
   ·refine aA fun _o w3=>?_;refine aA fun w4 w5=>?_;refine aA fun F6 w6=>?_;refine aA fun w7 w8=>?_;obtain rfl:=cA w8;refine aA fun _o w9=>?_;refine aA fun x0 x1=>?_;refine aA fun F7 x2=>?_;refine bD (fun b6=>?_) (fun b6=>?_)
    ·refine aA fun F8 x3=>?_;refine bD (fun b8=>?_) (fun b8=>?_)
     ·refine aA fun F9 x4=>?_;refine aA fun o x5=>?_;obtain⟨x6,x7,x8,x9,y0,y1,y2,y3,y4,y5,y6,y7,y8,y9,z0,z1,z2,z3,z4,z5,z6,z7,z8,z9,A0,A1,A2,A3,A4,A5,A6⟩:=o;obtain rfl:=aF x5;intro h;obtain rfl:=cB h;exact aL (hs:=[.run 4,.call (.tuple [b,(.int .i64 d),(.int .i64 e)]) f,.run 8,.dec false,.aJ,.run 1,.JY [[b]],.bM a g,.run 2,.call (aG i j k l m p q s t u v w x y z A B C D E F G H I J K L M N O P) Q,.run 1,.bM AV.undef c,.run 1,.val a,.val S,.val T,.run 1,.val a,.val U,.val (.int .i64 V),.val W,.val X,.val (.int .i64 Y),.dec true,.eE [2,8,9,37] .normal [] b3,.run 1,.val a,.val a4,.val (.int .i64 a5),.dec true,.aJ,.run 2,.val a,.val w4,.val (.int .i64 w7),.run 1,.val a,.val a4,.val (.int .i64 a5),.bM AV.undef x0,.run 2,.val (aG x6 x7 x8 x9 y0 y1 y2 y3 y4 y5 y6 y7 y8 y9 z0 z1 z2 z3 z4 z5 z6 z7 z8 z9 A0 A1 A2 A3 A4 A5 A6)]) (by kernel_rfl) (aK x4<|aK (jE x2 b6)<|aK (jE x3 b8)<|aK (aP x1)<|aK b5<|aK b4<|aK (cC w9)<|aK w6<|aK w5<|aK (cC w3)<|aK (B7 a6) q9004) (by kernel_rfl) (by kernel_rfl)
     ·exact fun h=>nomatch h
    ·exact fun h=>nomatch h
 ·refine aA fun A7 A8=>?_;refine aA fun G0 A9=>?_;refine aA fun o B0=>?_;obtain⟨B1,B2,B3,B4,B5,B6,B8,B9,C1,C2,C3,C4,C5,C6,C7,C8,C9,D0,D1,D2,D3,D4,D5,D6,D7,D8,D9,E0,E1,E2,E3⟩:=o;obtain rfl:=aF B0;intro h;obtain rfl:=cB h;exact aL (hs:=[.run 4,.call (.tuple [b,(.int .i64 d),(.int .i64 e)]) f,.run 8,.dec true,.aJ,.run 3,.bM AV.undef A7,.run 2,.val (aG B1 B2 B3 B4 B5 B6 B8 B9 C1 C2 C3 C4 C5 C6 C7 C8 C9 D0 D1 D2 D3 D4 D5 D6 D7 D8 D9 E0 E1 E2 E3)]) (by kernel_rfl) (aK A9<|aK (aP A8)<|aK (B7 Z) q9001) (by kernel_rfl) (by kernel_rfl)
noncomputable def fT (R:Nat)(a:List UInt8):Option (List UInt8):=
 (Am a 0 500).bind fun b=>
 some b
theorem p6 {R:Nat}(n:Nat){a:List UInt8}(b:St){r:List UInt8}(h:fT R a=some r):
 cM 114 (bN C0 (aR C0 cK R (n+24007)) 5 R none (aQ C0.P 5 [1,1,0,1])) (bG (aQ C0.P 5 [1,1,0,1])) [(3,(.str a)),(18,(.bool true))] b .normal [(3,.str r)] b:=by
 revert h;unfold fT;refine aA fun c d=>?_;intro h;obtain rfl:=cB h;exact aO (hs:=[.aJ,.run 1,.val (.str c),.run 1]) (want:=[3]) (by kernel_rfl) (aK (LO (k':=.i64) (P:=C0.P) (t:=9) (by kernel_rfl) d) gD)
noncomputable def bY (R:Nat)(d:List UInt8)(h:Nat)(b:AV):Nat→List UInt8→Int→St→Option ((Bool×St) ⊕ (List UInt8×St))
 | 0,_,_,_=>none
 | r + 1, g, c, a =>
   (lenOf b).bind fun n6360=>
   if ((IntKind.wrap .i64 (c + 1)) < (n6360 : Int)) then
    (cV C0.P 40 b (.int .i64 c)).bind fun i=>
    (shift i 2).bind fun j=>
    (loadAt C0.P a 3 j).bind fun k=>
    (eP .i64 k).bind fun e=>
    if(e<0) then
     some (.inl (false,a))
    else
     (cV C0.P 40 b (.int .i64 (IntKind.wrap .i64 (c+1)))).bind fun l=>
     (shift l 2).bind fun m=>
     (loadAt C0.P a 3 m).bind fun n=>
     (eP .i64 n).bind fun f=>
     if(e>f) then
      some (.inl (false,a))
     else
      if(f>(List.length d:Int)) then
       some (.inl (false,a))
      else
       (Am d e f).bind fun o=>
       (oC o [10]).bind fun p=>
       (oC g p).bind fun q=>
       bY R d h b r q (IntKind.wrap .i64 (c+1)) a
   else
    some (.inr (g,a))
noncomputable def fO (o:(Bool×St) ⊕ (List UInt8×St)):cZ×List (Nat×AV)×St:=match o with
 | .inl (a0,a1)=>(.ret,[(2,.bool a0)],a1)
 | .inr (a0,a1)=>((.exit 0),[(10,.str a0)],a1)
theorem dV (R n : Nat) (B : List UInt8) (C : Nat) (D : AV) : ∀ (r : Nat) (y : List UInt8) (u : Int) (v : St) (o : (Bool × St) ⊕ (List UInt8 × St)), bY R B C D r y u v = some o →
 cM 114 (lO (fun fr k=>bN C0 (aR C0 cK R (n+24007)) 5 R none (aQ C0.P 5 [1,1,1,1,1,1,1,0,1,0,0]) fr k) r) (bG (aQ C0.P 5 [1,1,1,1,1,1,1,0,1,0,0])) [(3,(.str B)),(4,(.ref C 0)),(7,D),(10,(.str y)),(11,(.int .i64 u))] v (fO o).1 (fO o).2.1 (fO o).2.2:=by
 intro r
 induction r with
 | zero=>intro y u v o h; exact nomatch h
 | succ r ih =>
   intro y u v o
   unfold bY;refine aA fun n6360 w=>?_;refine bD (fun i=>?_) (fun i=>?_)
   ·refine aA fun a b=>?_;refine aA fun c d=>?_;refine aA fun M f=>?_;refine aA fun g F=>?_;obtain rfl:=cA F;refine bD (fun x=>?_) (fun x=>?_)
    ·intro h;obtain rfl:=cB h;exact cF (aO (hs:=[.run 3,.val (.int .i64 (n6360:Int)),.dec true,.aJ,.aJ,.run 2,.val a,.val c,.val (.int .i64 g),.dec true,.run 4,.aJ,.run 1]) (want:=[2]) (by kernel_rfl) (.cons (decide_eq_true x)<|.cons f<|.cons d<|.cons b<|.cons (decide_eq_true i)<|.cons (fD (P:=C0.P) (t:=40) (e:=26) (by kernel_rfl) w) .nil)) (by kernel_rfl)
    ·refine aA fun j l=>?_;refine aA fun m p=>?_;refine aA fun N q=>?_;refine aA fun s G=>?_;obtain rfl:=cA G;refine bD (fun z=>?_) (fun z=>?_)
     ·intro h;obtain rfl:=cB h;exact cF (aO (hs:=[.run 3,.val (.int .i64 (n6360:Int)),.dec true,.aJ,.aJ,.run 2,.val a,.val c,.val (.int .i64 g),.dec false,.run 3,.val a,.val c,.val (.int .i64 g),.run 3,.val j,.val m,.val (.int .i64 s),.dec true,.run 3,.aJ,.run 1]) (want:=[2]) (by kernel_rfl) (.cons (decide_eq_true z)<|.cons q<|.cons p<|.cons l<|.cons f<|.cons d<|.cons b<|.cons (decide_eq_false x)<|.cons f<|.cons d<|.cons b<|.cons (decide_eq_true i)<|.cons (fD (P:=C0.P) (t:=40) (e:=26) (by kernel_rfl) w) .nil)) (by kernel_rfl)
     ·refine bD (fun A=>?_) (fun A=>?_)
      ·intro h;obtain rfl:=cB h;exact cF (aO (hs:=[.run 3,.val (.int .i64 (n6360:Int)),.dec true,.aJ,.aJ,.run 2,.val a,.val c,.val (.int .i64 g),.dec false,.run 3,.val a,.val c,.val (.int .i64 g),.run 3,.val j,.val m,.val (.int .i64 s),.dec false,.run 5,.val j,.val m,.val (.int .i64 s),.run 2,.dec true,.run 1,.aJ,.run 1]) (want:=[2]) (by kernel_rfl) (.cons (decide_eq_true A)<|.cons q<|.cons p<|.cons l<|.cons (decide_eq_false z)<|.cons q<|.cons p<|.cons l<|.cons f<|.cons d<|.cons b<|.cons (decide_eq_false x)<|.cons f<|.cons d<|.cons b<|.cons (decide_eq_true i)<|.cons (fD (P:=C0.P) (t:=40) (e:=26) (by kernel_rfl) w) .nil)) (by kernel_rfl)
      ·refine aA fun H I=>?_;refine aA fun J K=>?_;refine aA fun E L=>?_;intro h;exact dP (aO (hs:=[.run 3,.val (.int .i64 (n6360:Int)),.dec true,.aJ,.aJ,.run 2,.val a,.val c,.val (.int .i64 g),.dec false,.run 3,.val a,.val c,.val (.int .i64 g),.run 3,.val j,.val m,.val (.int .i64 s),.dec false,.run 5,.val j,.val m,.val (.int .i64 s),.run 2,.dec false,.run 1,.aJ,.run 4,.val a,.val c,.val (.int .i64 g),.run 3,.val j,.val m,.val (.int .i64 s),.val (.str H),.val (.str J),.val (.str E),.run 4]) (want:=[3,4,7,10,11]) (by kernel_rfl) (.cons (jF L)<|.cons (jF K)<|.cons (HG (k:=.i64) (k':=.i64) (P:=C0.P) (t:=9) (by kernel_rfl) I)<|.cons q<|.cons p<|.cons l<|.cons f<|.cons d<|.cons b<|.cons (decide_eq_false A)<|.cons q<|.cons p<|.cons l<|.cons (decide_eq_false z)<|.cons q<|.cons p<|.cons l<|.cons f<|.cons d<|.cons b<|.cons (decide_eq_false x)<|.cons f<|.cons d<|.cons b<|.cons (decide_eq_true i)<|.cons (fD (P:=C0.P) (t:=40) (e:=26) (by kernel_rfl) w) .nil)) (ih E (IntKind.wrap .i64 (u+1)) v _ h)
   ·intro h;obtain rfl:=cB h;exact cF (aO (hs:=[.run 3,.val (.int .i64 (n6360:Int)),.dec false,.aJ]) (want:=[10]) (by kernel_rfl) (.cons (decide_eq_false i)<|.cons (fD (P:=C0.P) (t:=40) (e:=26) (by kernel_rfl) w) .nil)) (by kernel_rfl)
noncomputable def fC (R:Nat)(a:List UInt8):Option (List UInt8):=
 some a
theorem oK {R:Nat}(n:Nat){a:List UInt8}(b:St){r:List UInt8}(h:fC R a=some r):
 cM 114 (bN C0 (aR C0 cK R (n+24007)) 5 R none (aQ C0.P 5 [1,1,0,1])) (bG (aQ C0.P 5 [1,1,0,1])) [(3,(.str a)),(18,(.bool false))] b .normal [(3,.str r)] b:=by
 revert h;unfold fC;intro h;obtain rfl:=cB h;exact aO (hs:=[.aJ]) (want:=[3]) (by kernel_rfl) .nil
noncomputable def fZ (R:Nat)(g:List UInt8)(c4:St):Option (Bool×St):=
 if ((List.length g : Int) > 500) then
  (fT R g).bind fun h=>
  (jY R h c4).bind fun(d1,d2,d3,d4,d5,d6,d7,d8,d9,e0,e1,e2,e3,e4,e5,e6,e7,e8,e9,f0,f1,f2,f3,f4,f5,f6,f7,f8,f9,g0,g1,A5,g2,e)=>
  (storeAt C0.P (St.push e (.cells 34 true [(.int .i64 0),(.str []),(.str []),(.int .i64 0),(.str []),(.int .i64 0),(.bool false),(.int .i64 0),(.str []),AV.aB,AV.aB,AV.aB,AV.aB,AV.aB,AV.aB,(.int .i64 0),(.str []),(.int .i64 0),(.bool false),(.int .i64 0),(.str []),AV.aB,AV.aB,AV.aB,AV.aB,AV.aB,(.bool false),(.bool false),(.str []),(.bool false),(.int .i64 0)])) 34 (.ref (St.next e) 0) (.agg [(.int .i64 d1),(.str d2),(.str d3),(.int .i64 d4),(.str d5),(.int .i64 d6),(.bool d7),(.int .i64 d8),(.str d9),e0,e1,e2,e3,e4,e5,(.int .i64 e6),(.str e7),(.int .i64 e8),(.bool e9),(.int .i64 f0),(.str f1),f2,f3,f4,f5,f6,(.bool f7),(.bool f8),(.str f9),(.bool g0),(.int .i64 g1)])).bind fun g3=>
  (qH R h g3).bind fun(g4,A6,g5,i)=>
  if (g2 = 0) then
   if (g5 = 0) then
    (bY R h (St.next e) g4 R [] 0 i).bind fun o=>match o with
    | .inl (g6,g7)=>
     some (g6,g7)
    | .inr (g8, g9) =>
     (jY R g8 g9).bind fun(h0,h1,h2,h3,h4,h5,h6,h7,h8,h9,i0,i1,i2,i3,i4,i5,i6,i7,i9,j0,j1,j2,j3,j4,j5,j6,j7,j8,j9,k0,k1,A7,k2,a)=>
     (storeAt C0.P (St.push a (.cells 34 true [(.int .i64 0),(.str []),(.str []),(.int .i64 0),(.str []),(.int .i64 0),(.bool false),(.int .i64 0),(.str []),AV.aB,AV.aB,AV.aB,AV.aB,AV.aB,AV.aB,(.int .i64 0),(.str []),(.int .i64 0),(.bool false),(.int .i64 0),(.str []),AV.aB,AV.aB,AV.aB,AV.aB,AV.aB,(.bool false),(.bool false),(.str []),(.bool false),(.int .i64 0)])) 34 (.ref (St.next a) 0) (.agg [(.int .i64 h0),(.str h1),(.str h2),(.int .i64 h3),(.str h4),(.int .i64 h5),(.bool h6),(.int .i64 h7),(.str h8),h9,i0,i1,i2,i3,i4,(.int .i64 i5),(.str i6),(.int .i64 i7),(.bool i9),(.int .i64 j0),(.str j1),j2,j3,j4,j5,j6,(.bool j7),(.bool j8),(.str j9),(.bool k0),(.int .i64 k1)])).bind fun b=>
     (xI R).bind fun k3=>
     if k3 = true then
      if (k2 = 0) then
       (loadAt C0.P b 34 (.ref (St.next e) 0)).bind fun k4=>
       (aD k4).bind fun(k5,k6,k7,k8,k9,l0,l1,l2,l3,l4,l5,l6,l7,l8,l9,m0,m1,m2,m3,m4,m5,m6,m7,m8,m9,n0,n1,n2,n3,n4,n5)=>
       (loadAt C0.P b 34 (.ref (St.next a) 0)).bind fun n6=>
       (aD n6).bind fun(j,k,l,m,n,p,q,r,s,t,u,v,w,x,y,z,A,B,C,D,E,F,G,H,I,J,K,L,M,N,O)=>
       (eJ R k5 k6 k7 k8 k9 l0 l1 l2 l3 l4 l5 l6 l7 l8 l9 m0 m1 m2 m3 m4 m5 m6 m7 m8 m9 n0 n1 n2 n3 n4 n5 b).bind fun(n7,n8,c5)=>
       (loadAt C0.P c5 34 (.ref (St.next a) 0)).bind fun n9=>
       if AV.beq n9 (.agg [(.int .i64 j), (.str k), (.str l), (.int .i64 m), (.str n), (.int .i64 p), (.bool q), (.int .i64 r), (.str s), t, u, v, w, x, y, (.int .i64 z), (.str A), (.int .i64 B), (.bool C), (.int .i64 D), (.str E), F, G, H, I, J, (.bool K), (.bool L), (.str M), (.bool N), (.int .i64 O)]) = true then
        (eH R n7 n8 c5).bind fun(o0,c6)=>
        (loadAt C0.P c6 34 (.ref (St.next a) 0)).bind fun o1=>
        if AV.beq o1 (.agg [(.int .i64 j),(.str k),(.str l),(.int .i64 m),(.str n),(.int .i64 p),(.bool q),(.int .i64 r),(.str s),t,u,v,w,x,y,(.int .i64 z),(.str A),(.int .i64 B),(.bool C),(.int .i64 D),(.str E),F,G,H,I,J,(.bool K),(.bool L),(.str M),(.bool N),(.int .i64 O)])=true then
         (eJ R j k l m n p q r s t u v w x y z A B C D E F G H I J K L M N O c6).bind fun(o2,o3,o4)=>
         (eH R o2 o3 o4).bind fun(o5,c7)=>
         if(o0=o5) then
          some (true,c7)
         else
          some (false,c7)
        else
         none
       else
        none
      else
       some (false,b)
     else
      some (false,b)
   else
    (xI R).bind fun o6=>
    some (o6,i)
  else
   (xI R).bind fun o7=>
   some (o7,i)
 else
  (fC R g).bind fun Q=>
  (jY R Q c4).bind fun(o8,o9,p0,p1,p2,p3,p4,p5,p6,p7,p8,p9,q0,q1,q2,q3,q4,q5,q6,q7,q8,q9,r0,r1,r2,r3,r4,r5,r6,r7,r8,A8,r9,f)=>
  (storeAt C0.P (St.push f (.cells 34 true [(.int .i64 0),(.str []),(.str []),(.int .i64 0),(.str []),(.int .i64 0),(.bool false),(.int .i64 0),(.str []),AV.aB,AV.aB,AV.aB,AV.aB,AV.aB,AV.aB,(.int .i64 0),(.str []),(.int .i64 0),(.bool false),(.int .i64 0),(.str []),AV.aB,AV.aB,AV.aB,AV.aB,AV.aB,(.bool false),(.bool false),(.str []),(.bool false),(.int .i64 0)])) 34 (.ref (St.next f) 0) (.agg [(.int .i64 o8),(.str o9),(.str p0),(.int .i64 p1),(.str p2),(.int .i64 p3),(.bool p4),(.int .i64 p5),(.str p6),p7,p8,p9,q0,q1,q2,(.int .i64 q3),(.str q4),(.int .i64 q5),(.bool q6),(.int .i64 q7),(.str q8),q9,r0,r1,r2,r3,(.bool r4),(.bool r5),(.str r6),(.bool r7),(.int .i64 r8)])).bind fun s0=>
  (qH R Q s0).bind fun(s1,A9,s2,S)=>
  if (r9 = 0) then
   if (s2 = 0) then
    (bY R Q (St.next f) s1 R [] 0 S).bind fun o=>match o with
    | .inl (s3,s4)=>
     some (s3,s4)
    | .inr (s5, s6) =>
     (jY R s5 s6).bind fun(s7,s8,s9,t0,t1,t2,t3,t4,t5,t6,t7,t8,t9,u0,u1,u2,u3,u4,u5,u6,u7,u9,v0,v1,v2,v3,v4,v5,v6,v7,v8,B0,v9,c)=>
     (storeAt C0.P (St.push c (.cells 34 true [(.int .i64 0),(.str []),(.str []),(.int .i64 0),(.str []),(.int .i64 0),(.bool false),(.int .i64 0),(.str []),AV.aB,AV.aB,AV.aB,AV.aB,AV.aB,AV.aB,(.int .i64 0),(.str []),(.int .i64 0),(.bool false),(.int .i64 0),(.str []),AV.aB,AV.aB,AV.aB,AV.aB,AV.aB,(.bool false),(.bool false),(.str []),(.bool false),(.int .i64 0)])) 34 (.ref (St.next c) 0) (.agg [(.int .i64 s7),(.str s8),(.str s9),(.int .i64 t0),(.str t1),(.int .i64 t2),(.bool t3),(.int .i64 t4),(.str t5),t6,t7,t8,t9,u0,u1,(.int .i64 u2),(.str u3),(.int .i64 u4),(.bool u5),(.int .i64 u6),(.str u7),u9,v0,v1,v2,v3,(.bool v4),(.bool v5),(.str v6),(.bool v7),(.int .i64 v8)])).bind fun d=>
     (xI R).bind fun w0=>
     if w0 = true then
      if (v9 = 0) then
       (loadAt C0.P d 34 (.ref (St.next f) 0)).bind fun w1=>
       (aD w1).bind fun(w2,w3,w4,w5,w6,w7,w8,w9,x0,x1,x2,x3,x4,x5,x6,x7,x8,x9,y0,y1,y2,y3,y4,y5,y6,y7,y8,y9,z0,z1,z2)=>
       (loadAt C0.P d 34 (.ref (St.next c) 0)).bind fun z3=>
       (aD z3).bind fun(T,U,V,W,X,Y,Z,a0,a1,a2,a3,a4,a5,a6,a7,a8,a9,b0,b1,b2,b3,b4,b5,b6,b7,b8,b9,c0,c1,c2,c3)=>
       (eJ R w2 w3 w4 w5 w6 w7 w8 w9 x0 x1 x2 x3 x4 x5 x6 x7 x8 x9 y0 y1 y2 y3 y4 y5 y6 y7 y8 y9 z0 z1 z2 d).bind fun(z4,z5,c8)=>
       (loadAt C0.P c8 34 (.ref (St.next c) 0)).bind fun z6=>
       if AV.beq z6 (.agg [(.int .i64 T), (.str U), (.str V), (.int .i64 W), (.str X), (.int .i64 Y), (.bool Z), (.int .i64 a0), (.str a1), a2, a3, a4, a5, a6, a7, (.int .i64 a8), (.str a9), (.int .i64 b0), (.bool b1), (.int .i64 b2), (.str b3), b4, b5, b6, b7, b8, (.bool b9), (.bool c0), (.str c1), (.bool c2), (.int .i64 c3)]) = true then
        (eH R z4 z5 c8).bind fun(z7,c9)=>
        (loadAt C0.P c9 34 (.ref (St.next c) 0)).bind fun z8=>
        if AV.beq z8 (.agg [(.int .i64 T),(.str U),(.str V),(.int .i64 W),(.str X),(.int .i64 Y),(.bool Z),(.int .i64 a0),(.str a1),a2,a3,a4,a5,a6,a7,(.int .i64 a8),(.str a9),(.int .i64 b0),(.bool b1),(.int .i64 b2),(.str b3),b4,b5,b6,b7,b8,(.bool b9),(.bool c0),(.str c1),(.bool c2),(.int .i64 c3)])=true then
         (eJ R T U V W X Y Z a0 a1 a2 a3 a4 a5 a6 a7 a8 a9 b0 b1 b2 b3 b4 b5 b6 b7 b8 b9 c0 c1 c2 c3 c9).bind fun(z9,A0,A1)=>
         (eH R z9 A0 A1).bind fun(A2,d0)=>
         if(z7=A2) then
          some (true,d0)
         else
          some (false,d0)
        else
         none
       else
        none
      else
       some (false,d)
     else
      some (false,d)
   else
    (xI R).bind fun A3=>
    some (A3,S)
  else
   (xI R).bind fun A4=>
   some (A4,S)
theorem s7 {R : Nat} (n : Nat) {m2 : List UInt8} {a : St} {r : Bool × St} (h : fZ R m2 a = some r):
 b7 (aR C0 cK R (n+24008)) false 5 [(.str m2)] a (.bool r.1) r.2:=by
 revert h;unfold fZ;refine bD (fun l3=>?_) (fun l3=>?_)
 ·refine aA fun d B6 => ?_
  refine aA fun o B8=>?_;obtain⟨m,p,q,s,t,u,v,w,x,y,z,A,B,C,D,E,F,G,H,I,J,K,L,M,N,O,P,Q,S,T,U,V,W,e⟩:=o;refine aA fun X B9=>?_;refine aA fun o C1=>?_;obtain⟨f,Y,Z,b⟩:=o;have q9005:=aK (yM (n+24004) C1)<|aK (aP B9)<|aK (pQ n B8)<|aK (p6 n a B6)<|aK (decide_eq_true l3) gD
  refine bD (fun l4=>?_) (fun l4=>?_)
  ·have q9006 := aK (vR l4) q9005
   refine bD (fun d7=>?_) (fun d7=>?_)
   ·refine aA fun o m3 => ?_
    rcases o with⟨C2,C3⟩ | ⟨d8,d9⟩
    ·intro h;obtain rfl:=cB h;exact aL (hs:=[.run 5,.dec true,.eE [3,18] .normal [(3,(.str d))] a,.run 1,.call (.tuple [(aG m p q s t u v w x y z A B C D E F G H I J K L M N O P Q S T U),(.int .i64 V),(.int .i64 W)]) e,.run 5,.bM AV.undef X,.run 3,.call (.tuple [f,(.int .i64 Y),(.int .i64 Z)]) b,.run 8,.dec false,.run 2,.dec false,.run 1,.aJ,.run 2,.aJ,.abs [3,4,7,10,11] .ret [(2,(.bool C2))] C3]) (by kernel_rfl) (aK (cW (dV R n d (St.next e) f R [] 0 b _ m3))<|aK (vR d7) q9006) (by kernel_rfl) (by kernel_rfl)
    ·refine aA fun o C4 => ?_
     obtain⟨e0,e1,e2,e3,e4,e5,e6,e7,e8,e9,f0,f1,f2,f3,f4,f5,f6,f7,f8,f9,g0,g1,g2,g3,g4,g5,g6,g7,g8,g9,h0,h1,h2,h3⟩:=o;refine aA fun g C5=>?_;refine aA fun G4 C6=>?_;have q9007:=aK (mT R (n+24006) g _ C6)<|aK (aP C5)<|aK (pQ n C4)<|aK (cW (dV R n d (St.next e) f R [] 0 b _ m3))<|aK (vR d7) q9006
     refine bD (fun l5=>?_) (fun l5=>?_)
     ·subst l5;refine bD (fun l6=>?_) (fun l6=>?_)
      ·refine aA fun G5 C7=>?_;refine aA fun o C8=>?_;obtain⟨m4,m5,m6,m7,m8,m9,n0,n1,n2,n3,n4,n5,n6,n7,n8,n9,o0,o1,o2,o3,o4,o5,o6,o7,o8,o9,p0,p1,p2,p3,p4⟩:=o;obtain rfl:=aF C8;refine aA fun G6 C9=>?_;refine aA fun o D0=>?_;obtain⟨p5,p7,p8,p9,q0,q1,q2,q3,q4,q5,q6,q7,q8,q9,r0,r1,r2,r3,r4,r5,r6,r7,r8,r9,s0,s1,s2,s3,s4,s5,s6⟩:=o;obtain rfl:=aF D0;refine aA fun o D1=>?_;obtain⟨s8,s9,t0⟩:=o;refine aA fun G7 D2=>?_;have q9008:=aK (kW (n+8001) D1)<|aK C9<|aK C7<|aK (gA l6) q9007
       refine bD (fun t1=>?_) (fun t1=>?_)
       ·refine aA fun o D3=>?_;obtain⟨t2,t3⟩:=o;refine aA fun G8 D4=>?_;have q9009:=aK (j8 (n+20006) D3)<|aK (jE D2 t1) q9008
        refine bD (fun t4=>?_) (fun t4=>?_)
        ·refine aA fun o D5=>?_;obtain⟨t5,t6,t7⟩:=o;refine aA fun o D6=>?_;obtain⟨t8,t9⟩:=o;have q9010:=aK (j8 (n+20006) D6)<|aK (kW (n+8001) D5)<|aK (jE D4 t4) q9009
         refine bD (fun l7=>?_) (fun l7=>?_)
         ·intro h;obtain rfl:=cB h;exact aL (hs:=[.run 5,.dec true,.eE [3,18] .normal [(3,(.str d))] a,.run 1,.call (.tuple [(aG m p q s t u v w x y z A B C D E F G H I J K L M N O P Q S T U),(.int .i64 V),(.int .i64 W)]) e,.run 5,.bM AV.undef X,.run 3,.call (.tuple [f,(.int .i64 Y),(.int .i64 Z)]) b,.run 8,.dec false,.run 2,.dec false,.run 1,.aJ,.run 2,.aJ,.abs [3,4,7,10,11] (.exit 0) [(10,(.str d8))] d9,.run 1,.call (.tuple [(aG e0 e1 e2 e3 e4 e5 e6 e7 e8 e9 f0 f1 f2 f3 f4 f5 f6 f7 f8 f9 g0 g1 g2 g3 g4 g5 g6 g7 g8 g9 h0),(.int .i64 h1),(.int .i64 h2)]) h3,.run 5,.bM AV.undef g,.run 2,.call (.bool true) g,.run 2,.dec true,.run 2,.val (aG m4 m5 m6 m7 m8 m9 n0 n1 n2 n3 n4 n5 n6 n7 n8 n9 o0 o1 o2 o3 o4 o5 o6 o7 o8 o9 p0 p1 p2 p3 p4),.val (aG p5 p7 p8 p9 q0 q1 q2 q3 q4 q5 q6 q7 q8 q9 r0 r1 r2 r3 r4 r5 r6 r7 r8 r9 s0 s1 s2 s3 s4 s5 s6),.call (dJ s8 s9) t0,.call (.str t2) t3,.call (dJ t5 t6) t7,.call (.str t8) t9,.dec true,.run 2]) (by kernel_rfl) (aK (mK l7) q9010) (by kernel_rfl) (by kernel_rfl)
         ·intro h;obtain rfl:=cB h;exact aL (hs:=[.run 5,.dec true,.eE [3,18] .normal [(3,(.str d))] a,.run 1,.call (.tuple [(aG m p q s t u v w x y z A B C D E F G H I J K L M N O P Q S T U),(.int .i64 V),(.int .i64 W)]) e,.run 5,.bM AV.undef X,.run 3,.call (.tuple [f,(.int .i64 Y),(.int .i64 Z)]) b,.run 8,.dec false,.run 2,.dec false,.run 1,.aJ,.run 2,.aJ,.abs [3,4,7,10,11] (.exit 0) [(10,(.str d8))] d9,.run 1,.call (.tuple [(aG e0 e1 e2 e3 e4 e5 e6 e7 e8 e9 f0 f1 f2 f3 f4 f5 f6 f7 f8 f9 g0 g1 g2 g3 g4 g5 g6 g7 g8 g9 h0),(.int .i64 h1),(.int .i64 h2)]) h3,.run 5,.bM AV.undef g,.run 2,.call (.bool true) g,.run 2,.dec true,.run 2,.val (aG m4 m5 m6 m7 m8 m9 n0 n1 n2 n3 n4 n5 n6 n7 n8 n9 o0 o1 o2 o3 o4 o5 o6 o7 o8 o9 p0 p1 p2 p3 p4),.val (aG p5 p7 p8 p9 q0 q1 q2 q3 q4 q5 q6 q7 q8 q9 r0 r1 r2 r3 r4 r5 r6 r7 r8 r9 s0 s1 s2 s3 s4 s5 s6),.call (dJ s8 s9) t0,.call (.str t2) t3,.call (dJ t5 t6) t7,.call (.str t8) t9,.dec false,.run 2]) (by kernel_rfl) (aK (kY l7) q9010) (by kernel_rfl) (by kernel_rfl)
        ·exact fun h=>nomatch h
       ·exact fun h=>nomatch h
      ·intro h;obtain rfl:=cB h;exact aL (hs:=[.run 5,.dec true,.eE [3,18] .normal [(3,(.str d))] a,.run 1,.call (.tuple [(aG m p q s t u v w x y z A B C D E F G H I J K L M N O P Q S T U),(.int .i64 V),(.int .i64 W)]) e,.run 5,.bM AV.undef X,.run 3,.call (.tuple [f,(.int .i64 Y),(.int .i64 Z)]) b,.run 8,.dec false,.run 2,.dec false,.run 1,.aJ,.run 2,.aJ,.abs [3,4,7,10,11] (.exit 0) [(10,(.str d8))] d9,.run 1,.call (.tuple [(aG e0 e1 e2 e3 e4 e5 e6 e7 e8 e9 f0 f1 f2 f3 f4 f5 f6 f7 f8 f9 g0 g1 g2 g3 g4 g5 g6 g7 g8 g9 h0),(.int .i64 h1),(.int .i64 h2)]) h3,.run 5,.bM AV.undef g,.run 2,.call (.bool true) g,.run 2,.dec false,.run 4]) (by kernel_rfl) (aK (eW l6) q9007) (by kernel_rfl) (by kernel_rfl)
     ·obtain rfl:=bF l5;intro h;obtain rfl:=cB h;exact aL (hs:=[.run 5,.dec true,.eE [3,18] .normal [(3,(.str d))] a,.run 1,.call (.tuple [(aG m p q s t u v w x y z A B C D E F G H I J K L M N O P Q S T U),(.int .i64 V),(.int .i64 W)]) e,.run 5,.bM AV.undef X,.run 3,.call (.tuple [f,(.int .i64 Y),(.int .i64 Z)]) b,.run 8,.dec false,.run 2,.dec false,.run 1,.aJ,.run 2,.aJ,.abs [3,4,7,10,11] (.exit 0) [(10,(.str d8))] d9,.run 1,.call (.tuple [(aG e0 e1 e2 e3 e4 e5 e6 e7 e8 e9 f0 f1 f2 f3 f4 f5 f6 f7 f8 f9 g0 g1 g2 g3 g4 g5 g6 g7 g8 g9 h0),(.int .i64 h1),(.int .i64 h2)]) h3,.run 5,.bM AV.undef g,.run 2,.call (.bool false) g,.run 5]) (by kernel_rfl) (q9007) (by kernel_rfl) (by kernel_rfl)
   ·refine aA fun D7 D8=>?_;intro h;obtain rfl:=cB h;exact aL (hs:=[.run 5,.dec true,.eE [3,18] .normal [(3,(.str d))] a,.run 1,.call (.tuple [(aG m p q s t u v w x y z A B C D E F G H I J K L M N O P Q S T U),(.int .i64 V),(.int .i64 W)]) e,.run 5,.bM AV.undef X,.run 3,.call (.tuple [f,(.int .i64 Y),(.int .i64 Z)]) b,.run 8,.dec false,.run 2,.dec true,.run 1,.aJ,.call (.bool D7) b,.run 1]) (by kernel_rfl) (aK (mT R (n+24006) b _ D8)<|aK (B7 d7) q9006) (by kernel_rfl) (by kernel_rfl)
  ·refine aA fun D9 E0=>?_;intro h;obtain rfl:=cB h;exact aL (hs:=[.run 5,.dec true,.eE [3,18] .normal [(3,(.str d))] a,.run 1,.call (.tuple [(aG m p q s t u v w x y z A B C D E F G H I J K L M N O P Q S T U),(.int .i64 V),(.int .i64 W)]) e,.run 5,.bM AV.undef X,.run 3,.call (.tuple [f,(.int .i64 Y),(.int .i64 Z)]) b,.run 8,.dec true,.run 2,.aJ,.call (.bool D9) b,.run 1]) (by kernel_rfl) (aK (mT R (n+24006) b _ E0)<|aK (B7 l4) q9005) (by kernel_rfl) (by kernel_rfl)
 ·refine aA fun i E1 => ?_
  refine aA fun o E2=>?_;obtain⟨a0,a1,a2,a3,a4,a5,a6,a7,a8,a9,b0,b1,b2,b3,b4,b5,b6,b8,b9,c0,c1,c2,c3,c4,c5,c6,c7,c8,c9,d0,d1,d2,d3,j⟩:=o;refine aA fun d4 E3=>?_;refine aA fun o E4=>?_;obtain⟨k,d5,d6,c⟩:=o;have q9011:=aK (yM (n+24004) E4)<|aK (aP E3)<|aK (pQ n E2)<|aK (oK n a E1)<|aK (decide_eq_false l3) gD
  refine bD (fun l8=>?_) (fun l8=>?_)
  ·have q9012 := aK (vR l8) q9011
   refine bD (fun h4=>?_) (fun h4=>?_)
   ·refine aA fun o u0 => ?_
    rcases o with⟨E5,E6⟩ | ⟨h5,h6⟩
    ·intro h;obtain rfl:=cB h;exact aL (hs:=[.run 5,.dec false,.eE [3,18] .normal [(3,(.str i))] a,.run 1,.call (.tuple [(aG a0 a1 a2 a3 a4 a5 a6 a7 a8 a9 b0 b1 b2 b3 b4 b5 b6 b8 b9 c0 c1 c2 c3 c4 c5 c6 c7 c8 c9 d0 d1),(.int .i64 d2),(.int .i64 d3)]) j,.run 5,.bM AV.undef d4,.run 3,.call (.tuple [k,(.int .i64 d5),(.int .i64 d6)]) c,.run 8,.dec false,.run 2,.dec false,.run 1,.aJ,.run 2,.aJ,.abs [3,4,7,10,11] .ret [(2,(.bool E5))] E6]) (by kernel_rfl) (aK (cW (dV R n i (St.next j) k R [] 0 c _ u0))<|aK (vR h4) q9012) (by kernel_rfl) (by kernel_rfl)
    ·refine aA fun o E7 => ?_
     obtain⟨h7,h8,h9,i0,i1,i2,i3,i4,i5,i6,i7,i9,j0,j1,j2,j3,j4,j5,j6,j7,j9,k0,k1,k2,k3,k4,k5,k6,k7,k8,k9,l0,l1,l2⟩:=o;refine aA fun l E8=>?_;refine aA fun G9 E9=>?_;have q9013:=aK (mT R (n+24006) l _ E9)<|aK (aP E8)<|aK (pQ n E7)<|aK (cW (dV R n i (St.next j) k R [] 0 c _ u0))<|aK (vR h4) q9012
     refine bD (fun l9=>?_) (fun l9=>?_)
     ·subst l9;refine bD (fun m0=>?_) (fun m0=>?_)
      ·refine aA fun H0 F0=>?_;refine aA fun o F1=>?_;obtain⟨u1,u2,u3,u4,u5,u6,u7,u9,v0,v1,v2,v3,v4,v5,v6,v7,v8,v9,w0,w1,w2,w3,w4,w5,w6,w7,w8,w9,x0,x1,x2⟩:=o;obtain rfl:=aF F1;refine aA fun H1 F2=>?_;refine aA fun o F3=>?_;obtain⟨x3,x4,x5,x6,x7,x8,x9,y0,y1,y2,y3,y4,y5,y6,y7,y8,y9,z0,z1,z2,z3,z4,z5,z6,z7,z8,z9,A0,A1,A2,A3⟩:=o;obtain rfl:=aF F3;refine aA fun o F4=>?_;obtain⟨A4,A5,A6⟩:=o;refine aA fun H2 F5=>?_;have q9014:=aK (kW (n+8001) F4)<|aK F2<|aK F0<|aK (gA m0) q9013
       refine bD (fun A7=>?_) (fun A7=>?_)
       ·refine aA fun o F6=>?_;obtain⟨A8,A9⟩:=o;refine aA fun H3 F7=>?_;have q9015:=aK (j8 (n+20006) F6)<|aK (jE F5 A7) q9014
        refine bD (fun B0=>?_) (fun B0=>?_)
        ·refine aA fun o F8=>?_;obtain⟨B1,B2,B3⟩:=o;refine aA fun o F9=>?_;obtain⟨B4,B5⟩:=o;have q9016:=aK (j8 (n+20006) F9)<|aK (kW (n+8001) F8)<|aK (jE F7 B0) q9015
         refine bD (fun m1=>?_) (fun m1=>?_)
         ·intro h;obtain rfl:=cB h;exact aL (hs:=[.run 5,.dec false,.eE [3,18] .normal [(3,(.str i))] a,.run 1,.call (.tuple [(aG a0 a1 a2 a3 a4 a5 a6 a7 a8 a9 b0 b1 b2 b3 b4 b5 b6 b8 b9 c0 c1 c2 c3 c4 c5 c6 c7 c8 c9 d0 d1),(.int .i64 d2),(.int .i64 d3)]) j,.run 5,.bM AV.undef d4,.run 3,.call (.tuple [k,(.int .i64 d5),(.int .i64 d6)]) c,.run 8,.dec false,.run 2,.dec false,.run 1,.aJ,.run 2,.aJ,.abs [3,4,7,10,11] (.exit 0) [(10,(.str h5))] h6,.run 1,.call (.tuple [(aG h7 h8 h9 i0 i1 i2 i3 i4 i5 i6 i7 i9 j0 j1 j2 j3 j4 j5 j6 j7 j9 k0 k1 k2 k3 k4 k5 k6 k7 k8 k9),(.int .i64 l0),(.int .i64 l1)]) l2,.run 5,.bM AV.undef l,.run 2,.call (.bool true) l,.run 2,.dec true,.run 2,.val (aG u1 u2 u3 u4 u5 u6 u7 u9 v0 v1 v2 v3 v4 v5 v6 v7 v8 v9 w0 w1 w2 w3 w4 w5 w6 w7 w8 w9 x0 x1 x2),.val (aG x3 x4 x5 x6 x7 x8 x9 y0 y1 y2 y3 y4 y5 y6 y7 y8 y9 z0 z1 z2 z3 z4 z5 z6 z7 z8 z9 A0 A1 A2 A3),.call (dJ A4 A5) A6,.call (.str A8) A9,.call (dJ B1 B2) B3,.call (.str B4) B5,.dec true,.run 2]) (by kernel_rfl) (aK (mK m1) q9016) (by kernel_rfl) (by kernel_rfl)
         ·intro h;obtain rfl:=cB h;exact aL (hs:=[.run 5,.dec false,.eE [3,18] .normal [(3,(.str i))] a,.run 1,.call (.tuple [(aG a0 a1 a2 a3 a4 a5 a6 a7 a8 a9 b0 b1 b2 b3 b4 b5 b6 b8 b9 c0 c1 c2 c3 c4 c5 c6 c7 c8 c9 d0 d1),(.int .i64 d2),(.int .i64 d3)]) j,.run 5,.bM AV.undef d4,.run 3,.call (.tuple [k,(.int .i64 d5),(.int .i64 d6)]) c,.run 8,.dec false,.run 2,.dec false,.run 1,.aJ,.run 2,.aJ,.abs [3,4,7,10,11] (.exit 0) [(10,(.str h5))] h6,.run 1,.call (.tuple [(aG h7 h8 h9 i0 i1 i2 i3 i4 i5 i6 i7 i9 j0 j1 j2 j3 j4 j5 j6 j7 j9 k0 k1 k2 k3 k4 k5 k6 k7 k8 k9),(.int .i64 l0),(.int .i64 l1)]) l2,.run 5,.bM AV.undef l,.run 2,.call (.bool true) l,.run 2,.dec true,.run 2,.val (aG u1 u2 u3 u4 u5 u6 u7 u9 v0 v1 v2 v3 v4 v5 v6 v7 v8 v9 w0 w1 w2 w3 w4 w5 w6 w7 w8 w9 x0 x1 x2),.val (aG x3 x4 x5 x6 x7 x8 x9 y0 y1 y2 y3 y4 y5 y6 y7 y8 y9 z0 z1 z2 z3 z4 z5 z6 z7 z8 z9 A0 A1 A2 A3),.call (dJ A4 A5) A6,.call (.str A8) A9,.call (dJ B1 B2) B3,.call (.str B4) B5,.dec false,.run 2]) (by kernel_rfl) (aK (kY m1) q9016) (by kernel_rfl) (by kernel_rfl)
        ·exact fun h=>nomatch h
       ·exact fun h=>nomatch h
      ·intro h;obtain rfl:=cB h;exact aL (hs:=[.run 5,.dec false,.eE [3,18] .normal [(3,(.str i))] a,.run 1,.call (.tuple [(aG a0 a1 a2 a3 a4 a5 a6 a7 a8 a9 b0 b1 b2 b3 b4 b5 b6 b8 b9 c0 c1 c2 c3 c4 c5 c6 c7 c8 c9 d0 d1),(.int .i64 d2),(.int .i64 d3)]) j,.run 5,.bM AV.undef d4,.run 3,.call (.tuple [k,(.int .i64 d5),(.int .i64 d6)]) c,.run 8,.dec false,.run 2,.dec false,.run 1,.aJ,.run 2,.aJ,.abs [3,4,7,10,11] (.exit 0) [(10,(.str h5))] h6,.run 1,.call (.tuple [(aG h7 h8 h9 i0 i1 i2 i3 i4 i5 i6 i7 i9 j0 j1 j2 j3 j4 j5 j6 j7 j9 k0 k1 k2 k3 k4 k5 k6 k7 k8 k9),(.int .i64 l0),(.int .i64 l1)]) l2,.run 5,.bM AV.undef l,.run 2,.call (.bool true) l,.run 2,.dec false,.run 4]) (by kernel_rfl) (aK (eW m0) q9013) (by kernel_rfl) (by kernel_rfl)
     ·obtain rfl:=bF l9;intro h;obtain rfl:=cB h;exact aL (hs:=[.run 5,.dec false,.eE [3,18] .normal [(3,(.str i))] a,.run 1,.call (.tuple [(aG a0 a1 a2 a3 a4 a5 a6 a7 a8 a9 b0 b1 b2 b3 b4 b5 b6 b8 b9 c0 c1 c2 c3 c4 c5 c6 c7 c8 c9 d0 d1),(.int .i64 d2),(.int .i64 d3)]) j,.run 5,.bM AV.undef d4,.run 3,.call (.tuple [k,(.int .i64 d5),(.int .i64 d6)]) c,.run 8,.dec false,.run 2,.dec false,.run 1,.aJ,.run 2,.aJ,.abs [3,4,7,10,11] (.exit 0) [(10,(.str h5))] h6,.run 1,.call (.tuple [(aG h7 h8 h9 i0 i1 i2 i3 i4 i5 i6 i7 i9 j0 j1 j2 j3 j4 j5 j6 j7 j9 k0 k1 k2 k3 k4 k5 k6 k7 k8 k9),(.int .i64 l0),(.int .i64 l1)]) l2,.run 5,.bM AV.undef l,.run 2,.call (.bool false) l,.run 5]) (by kernel_rfl) (q9013) (by kernel_rfl) (by kernel_rfl)
   ·refine aA fun G0 G1=>?_;intro h;obtain rfl:=cB h;exact aL (hs:=[.run 5,.dec false,.eE [3,18] .normal [(3,(.str i))] a,.run 1,.call (.tuple [(aG a0 a1 a2 a3 a4 a5 a6 a7 a8 a9 b0 b1 b2 b3 b4 b5 b6 b8 b9 c0 c1 c2 c3 c4 c5 c6 c7 c8 c9 d0 d1),(.int .i64 d2),(.int .i64 d3)]) j,.run 5,.bM AV.undef d4,.run 3,.call (.tuple [k,(.int .i64 d5),(.int .i64 d6)]) c,.run 8,.dec false,.run 2,.dec true,.run 1,.aJ,.call (.bool G0) c,.run 1]) (by kernel_rfl) (aK (mT R (n+24006) c _ G1)<|aK (B7 h4) q9012) (by kernel_rfl) (by kernel_rfl)
  ·refine aA fun G2 G3=>?_;intro h;obtain rfl:=cB h;exact aL (hs:=[.run 5,.dec false,.eE [3,18] .normal [(3,(.str i))] a,.run 1,.call (.tuple [(aG a0 a1 a2 a3 a4 a5 a6 a7 a8 a9 b0 b1 b2 b3 b4 b5 b6 b8 b9 c0 c1 c2 c3 c4 c5 c6 c7 c8 c9 d0 d1),(.int .i64 d2),(.int .i64 d3)]) j,.run 5,.bM AV.undef d4,.run 3,.call (.tuple [k,(.int .i64 d5),(.int .i64 d6)]) c,.run 8,.dec true,.run 2,.aJ,.call (.bool G2) c,.run 1]) (by kernel_rfl) (aK (mT R (n+24006) c _ G3)<|aK (B7 l8) q9011) (by kernel_rfl) (by kernel_rfl)
end
end Go.Proofs.YthodfojhbbendaaDoor
end
section
set_option linter.all false
set_option maxRecDepth 100000
set_option maxHeartbeats 4000000
namespace Go.Proofs.YthodfojhbbendaaDoor
open Go Go.Ev
noncomputable section
attribute [local congr] rL zU
def PK (R:Nat)(s:List UInt8)(m:Sm):Prop:=(kL s).2=none∧ ∃ z',Cs (nE s) R PZ=.some (m,z')∧z'.e=0∧(wd (nE s) z'.i).1=0
theorem PK.uniq {R:Nat}{s:List UInt8}{m m':Sm}(h:PK R s m)(k:PK R s m'):m=m':=by
 obtain⟨_,z,h1,_,_⟩:=h
 obtain⟨_,z',h2,_,_⟩:=k
 rw[h1] at h2
 exact(Prod.mk.inj (Option.some.inj h2)).1
theorem QB {cs:List AV}:shift (.rA cs) 0=.some (.rA cs):=by
 show cond (Nat.ble 0 cs.length) (Option.some (AV.rA (cs.drop 0))) none=_
 rw[iE (Nat.ble_eq_true_of_le (Nat.zero_le _)),List.drop_zero]
theorem KP.kn {p:Nat}{a b c:St}(h:KP p p a b)(k:KN c a)(hp:c.next≤p):KN c b:=
 ⟨Nat.le_trans k.1 h.1,fun i hi=>(h.2.1 i (Nat.lt_of_lt_of_le hi k.1) (by omega) (by omega)).trans (k.2.1 i hi),h.2.2.trans k.2.2⟩
theorem P7 {x:AV}{st:St}(h:x.one=true):qP 51 (.agg [x,.int .i64 0,.int .i64 0,.int .i64 0,.int .i64 0,.int .i64 0]) st=.some (.ref st.next 0,st.push (.cells 51 true [x,.int .i64 0,.int .i64 0,.int .i64 0,.int .i64 0,.int .i64 0])):=by
 have:List.all [x,.int .i64 0,.int .i64 0,.int .i64 0,.int .i64 0,.int .i64 0] AV.one=true:=by
  simp only[List.all_cons,List.all_nil,LQ,h,Bool.and_self]
 exact if_pos this
theorem Pw {s:List UInt8}:Gd (nE s) PZ:=⟨by unfold nE; simp[PZ],by decide,by decide,fun _=>by decide⟩
theorem Jr {R : Nat} (hR : 3000 < R) {s : List UInt8} (hs : s.length ≤ 1050) {st : St} (hO : Old st) {φ : Int × List UInt8 × List UInt8 × Int × List UInt8 × Int × Bool × Int × List UInt8 × AV × AV × AV × AV × AV × AV × Int × List UInt8 × Int × Bool × Int × List UInt8 × AV × AV × AV × AV × AV × Bool × Bool × List UInt8 × Bool × Int × Int × Int × St → Prop}
 (hbad:∀ a e st1,(¬ ∃ m,PK R s m)→e≠0→KN st st1→φ (0,[],[],0,[],0,false,0,[],.aB,.aB,.aB,.aB,.aB,.aB,0,[],0,false,0,[],.aB,.aB,.aB,.aB,.aB,false,false,[],false,0,a,e,st1))
 (hgood:∀ m st1 vk vn nv ev wk wn cv,PK R s m→RS m vk vn nv ev wk wn cv→SG m→KN st st1→φ (m.k,m.t,m.f,m.v.k,m.v.s,m.v.v.k,m.v.v.b,m.v.v.n,m.v.v.s,.aB,.aB,vk,vn,nv,ev,m.w.k,m.w.s,m.w.v.k,m.w.v.b,m.w.v.n,m.w.v.s,.aB,.aB,wk,wn,cv,m.c,m.h,m.o,m.d,m.l,0,0,st1)):T φ (jY R s st):=by
 have W:=P8 (s:=s) (by omega)
 have hwl:=Ds (s:=s)
 unfold jY
 refine T.bind (Gv (by omega) hR (fun j st1 hw k1=>?_) (fun x st1 hw hrow hl k1=>?_))
 ·refine T.lG (by decide) ?_
  have n_k1:=k1.le; (try simp only[aC,aE] at n_k1)
  have gr1:st1.aS.get st.next=.some (.cells 34 true [.int .i64 0,.str [],.str [],(.int .i64 0),(.str []),(.int .i64 0),(.bool false),(.int .i64 0),(.str []),AV.aB,AV.aB,AV.aB,AV.aB,.aB,.aB,(.int .i64 0),(.str []),(.int .i64 0),(.bool false),(.int .i64 0),(.str []),AV.aB,AV.aB,AV.aB,AV.aB,.aB,.bool false,.bool false,.str [],.bool false,.int .i64 0]):=by simp(disch:=(first | ((repeat(first | rw[aC] | rw[aE] | rw[List.length_cons] | rw[List.length_nil])) <;> omega) | (refine(?_:_∧True).1; constructor; simp only[aM, *]; exact True.intro))) only[dH,k1.2.1]
  repeat(refine T.step (by simp(disch:=(first | ((repeat(first | rw[aC] | rw[aE] | rw[List.length_cons] | rw[List.length_nil])) <;> omega) | (refine(?_:_∧True).1; constructor; simp only[aM, *]; exact True.intro))) only[bB,gr1]; try exact rfl) ?_)
  have K1:KN st st1:=(by repeat' (first | exact KN.trans (by repeat' (first | exact KN.refl | exact KN.refl | refine KN.eI ?_ | refine KN.loc ?_ ?_ | ((try simp only[aC,aE]) <;> omega))) k1 | refine KN.eI ?_ | refine KN.loc ?_ ?_ | ((try simp only[aC,aE]) <;> omega)))
  exact T.some (hbad _ _ _ (fun h=>by obtain⟨m,h,_⟩:=h; rw[h] at hw; cases hw) (by decide) (by repeat' (first | exact K1 | exact KN.refl | refine KN.eI ?_ | refine KN.loc ?_ ?_ | ((try simp only[aC,aE]) <;> omega))))
 ·refine T.jC rfl ?_
  have n_k1:=k1.le; (try simp only[aC,aE] at n_k1)
  have gr1:st1.aS.get st.next=.some (.cells 34 true [.int .i64 0,.str [],.str [],(.int .i64 0),(.str []),(.int .i64 0),(.bool false),(.int .i64 0),(.str []),AV.aB,AV.aB,AV.aB,AV.aB,.aB,.aB,(.int .i64 0),(.str []),(.int .i64 0),(.bool false),(.int .i64 0),(.str []),AV.aB,AV.aB,AV.aB,AV.aB,.aB,.bool false,.bool false,.str [],.bool false,.int .i64 0]):=by simp(disch:=(first | ((repeat(first | rw[aC] | rw[aE] | rw[List.length_cons] | rw[List.length_nil])) <;> omega) | (refine(?_:_∧True).1; constructor; simp only[aM, *]; exact True.intro))) only[dH,k1.2.1]
  have K1:KN st st1:=(by repeat' (first | exact KN.trans (by repeat' (first | exact KN.refl | exact KN.refl | refine KN.eI ?_ | refine KN.loc ?_ ?_ | ((try simp only[aC,aE]) <;> omega))) k1 | refine KN.eI ?_ | refine KN.loc ?_ ?_ | ((try simp only[aC,aE]) <;> omega)))
  have ox:=Row.one hrow
  refine T.step (N5 ox) ?_
  refine T.step (P7 ox) ?_
  have hi0:=(Pw (s:=s)).lt
  have h2:PS (nE s) (st1.push (.cells 51 true [x,.int .i64 0,.int .i64 0,.int .i64 0,.int .i64 0,.int .i64 0])) st1.next PZ:=PS.of (i:=0) (Ph rfl) hrow hi0 (Nat.lt_succ_self _)
  have K2:KN st (st1.push (.cells 51 true [x,.int .i64 0,.int .i64 0,.int .i64 0,.int .i64 0,.int .i64 0])):=K1.eI
  obtain⟨m,z',q1,q2,q3⟩:=O6 W (by omega) hR (Pw (s:=s))
  refine T.bind (Of W h2 (hO.BP (KN.kp (p:=0) (q:=0) K2)) q1 fun st3 vk vn nv ev wk wn cv hm h3 k3=>?_)
  have n_k3:=k3.le; (try simp only[aC,aE] at n_k3)
  have K3:KN st st3:=KP.kn k3 K2 (by omega)
  have gr3:st3.aS.get st.next=.some (.cells 34 true [.int .i64 0,.str [],.str [],(.int .i64 0),(.str []),(.int .i64 0),(.bool false),(.int .i64 0),(.str []),AV.aB,AV.aB,AV.aB,AV.aB,.aB,.aB,(.int .i64 0),(.str []),(.int .i64 0),(.bool false),(.int .i64 0),(.str []),AV.aB,AV.aB,AV.aB,AV.aB,.aB,.bool false,.bool false,.str [],.bool false,.int .i64 0]):=by simp(disch:=(first | ((repeat(first | rw[aC] | rw[aE] | rw[List.length_cons] | rw[List.length_nil])) <;> omega) | (refine(?_:_∧True).1; constructor; simp only[aM, *]; exact True.intro))) only[dH,k3.2.1,gr1]
  obtain⟨o1,o2,o3,o4,o5,o6,o7⟩:=hm.IP
  have h30:=h3
  obtain⟨x3,a3,t3,u3,hg3,hr3,hi3,hp3⟩:=h3
  have hz3:=q2.lt
  repeat(refine T.step (by simp(disch:=(first | ((repeat(first | rw[aC] | rw[aE] | rw[List.length_cons] | rw[List.length_nil])) <;> omega) | (refine(?_:_∧True).1; constructor; simp only[aM, *]; exact True.intro))) only[bB,hg3,FQ hr3 hi3,QB,v3]; try exact rfl) ?_)
  by_cases hk:(wd (nE s) z'.i).1=0
  ·refine T.jC hk ?_
   unfold lQ
   refine T.step rfl ?_
   repeat(refine T.step (by simp(disch:=(first | ((repeat(first | rw[aC] | rw[aE] | rw[List.length_cons] | rw[List.length_nil])) <;> omega) | (refine(?_:_∧True).1; constructor; simp only[aM, *]; exact True.intro))) only[bB,hg3]; try exact rfl) ?_)
   by_cases he:z'.e=0
   ·refine T.jC he ?_
    repeat(refine T.step (by simp(disch:=(first | ((repeat(first | rw[aC] | rw[aE] | rw[List.length_cons] | rw[List.length_nil])) <;> omega) | (refine(?_:_∧True).1; constructor; simp only[aM, *]; exact True.intro))) only[bB,gr3]; try exact rfl) ?_)
    exact T.some (hgood m _ _ _ _ _ _ _ _ ⟨hw,z',q1,he,hk⟩ hm (q3 he) (by repeat' (first | exact K3 | exact KN.refl | refine KN.eI ?_ | refine KN.loc ?_ ?_ | ((try simp only[aC,aE]) <;> omega))))
   ·refine T.lG he ?_
    have hno:¬ ∃ m,PK R s m:=by
     rintro⟨m',_,z2,p1,p2,p3⟩
     rw[q1] at p1
     obtain⟨rfl,rfl⟩:=Prod.mk.inj (Option.some.inj p1)
     exact he p2
    repeat(refine T.step (by simp(disch:=(first | ((repeat(first | rw[aC] | rw[aE] | rw[List.length_cons] | rw[List.length_nil])) <;> omega) | (refine(?_:_∧True).1; constructor; simp only[aM, *]; exact True.intro))) only[bB,hg3,gr3]; try exact rfl) ?_)
    refine T.jC (wR _ _) ?_
    repeat(refine T.step (by simp(disch:=(first | ((repeat(first | rw[aC] | rw[aE] | rw[List.length_cons] | rw[List.length_nil])) <;> omega) | (refine(?_:_∧True).1; constructor; simp only[aM, *]; exact True.intro))) only[bB,hg3]; try exact rfl) ?_)
    refine T.jC (wR _ _) ?_
    repeat(refine T.step (by simp(disch:=(first | ((repeat(first | rw[aC] | rw[aE] | rw[List.length_cons] | rw[List.length_nil])) <;> omega) | (refine(?_:_∧True).1; constructor; simp only[aM, *]; exact True.intro))) only[bB]; try exact rfl) ?_)
    exact T.some (hbad _ _ _ hno he (by repeat' (first | exact K3 | exact KN.refl | refine KN.eI ?_ | refine KN.loc ?_ ?_ | ((try simp only[aC,aE]) <;> omega))))
  ·refine T.lG hk ?_
   have hno:¬ ∃ m,PK R s m:=by
    rintro⟨m',_,z2,p1,p2,p3⟩
    rw[q1] at p1
    obtain⟨rfl,rfl⟩:=Prod.mk.inj (Option.some.inj p1)
    exact hk p3
   unfold kM
   refine T.bind (T.bind (oF (ws:=nE s) (z:=z') (p:=st1.next) (by repeat' (first | exact h30 | refine PS.push ?_ _ | refine PS.put ?_ _ ?_ | ((try simp only[aC,aE]) <;> omega))) fun st4 h4 k4 hn4=>T.some ?_))
   have n_k4:=k4.le; (try simp only[aC,aE] at n_k4)
   have hne:(lP z' 120).e≠0:=Ce (by decide)
   have K4:KN st st4:=KP.kn k4 (by repeat' (first | exact K3 | exact KN.refl | refine KN.eI ?_ | refine KN.loc ?_ ?_ | ((try simp only[aC,aE]) <;> omega))) (by omega)
   have gr4:st4.aS.get st.next=.some (.cells 34 true [.int .i64 0,.str [],.str [],(.int .i64 0),(.str []),(.int .i64 0),(.bool false),(.int .i64 0),(.str []),AV.aB,AV.aB,AV.aB,AV.aB,.aB,.aB,(.int .i64 0),(.str []),(.int .i64 0),(.bool false),(.int .i64 0),(.str []),AV.aB,AV.aB,AV.aB,AV.aB,.aB,.bool false,.bool false,.str [],.bool false,.int .i64 0]):=by simp(disch:=(first | ((repeat(first | rw[aC] | rw[aE] | rw[List.length_cons] | rw[List.length_nil])) <;> omega) | (refine(?_:_∧True).1; constructor; simp only[aM, *]; exact True.intro))) only[dH,k4.2.1,gr3]
   obtain⟨x4,a4,t4,u4,hg4,hr4,hi4,hp4⟩:=h4
   repeat(refine T.step (by simp(disch:=(first | ((repeat(first | rw[aC] | rw[aE] | rw[List.length_cons] | rw[List.length_nil])) <;> omega) | (refine(?_:_∧True).1; constructor; simp only[aM, *]; exact True.intro))) only[bB,hg4]; try exact rfl) ?_)
   refine T.lG hne ?_
   repeat(refine T.step (by simp(disch:=(first | ((repeat(first | rw[aC] | rw[aE] | rw[List.length_cons] | rw[List.length_nil])) <;> omega) | (refine(?_:_∧True).1; constructor; simp only[aM, *]; exact True.intro))) only[bB,hg4,gr4]; try exact rfl) ?_)
   refine T.jC (wR _ _) ?_
   repeat(refine T.step (by simp(disch:=(first | ((repeat(first | rw[aC] | rw[aE] | rw[List.length_cons] | rw[List.length_nil])) <;> omega) | (refine(?_:_∧True).1; constructor; simp only[aM, *]; exact True.intro))) only[bB,hg4]; try exact rfl) ?_)
   refine T.jC (wR _ _) ?_
   repeat(refine T.step (by simp(disch:=(first | ((repeat(first | rw[aC] | rw[aE] | rw[List.length_cons] | rw[List.length_nil])) <;> omega) | (refine(?_:_∧True).1; constructor; simp only[aM, *]; exact True.intro))) only[bB]; try exact rfl) ?_)
   exact T.some (hbad _ _ _ hno hne (by repeat' (first | exact K4 | exact KN.refl | refine KN.eI ?_ | refine KN.loc ?_ ?_ | ((try simp only[aC,aE]) <;> omega))))
end
end Go.Proofs.YthodfojhbbendaaDoor
end
section
set_option linter.all false
set_option maxRecDepth 100000
set_option maxHeartbeats 4000000
namespace Go.Proofs.YthodfojhbbendaaDoor
open Go Go.Ev
noncomputable section
attribute [local congr] rL zU
theorem KE {w:W}{l:List W}{i:Nat}:wd (w :: l) (i+1)=wd l i:=by unfold wd; rw[List.getElem?_cons_succ]
theorem Hk {n:Nat}:∀{l:List W} {i:Nat},LZ n l→i+1<l.length→ ∃ a b:Nat,(wd l i).2.2=(a:Int)∧(wd l (i+1)).2.2=(b:Int)∧a≤b∧b≤n
 | w :: w' :: l,0,h,_=>h.1
 | w :: w' :: l, i + 1, h, hi => by
   rw[KE,KE]
   exact Hk h.2 (by simp at hi ⊢; omega)
 | [w],i,_,hi=>by simp at hi
 | [],i,_,hi=>by simp at hi
theorem N0 {s:List UInt8}{l:List W}{i:Nat}(hi:i+1<l.length):uL s (l.drop i)=((s.take (wd l (i+1)).2.2.toNat).drop (wd l i).2.2.toNat ++ [10]) ++ uL s (l.drop (i+1)):=by
 rw[Dc (show i<l.length by omega),Dc hi]; rfl
theorem Oj {s:List UInt8}{l:List W}{i:Nat}(hi:¬ i+1<l.length):uL s (l.drop i)=[]:=by
 rcases Nat.lt_or_ge i l.length with h | h
 ·rw[Dc h,List.drop_eq_nil_of_le (by omega)]; rfl
 ·rw[List.drop_eq_nil_of_le h]; rfl
theorem M8 {R:Nat}{t:List UInt8}{d:Nat}{x:AV}{l:List W}{st:St}{φ:(Bool×St) ⊕ (List UInt8×St)→Prop}{U:List UInt8}(hx:Row 3 x (lA l))(hl:l.length≤3000)(ho:LZ t.length l)(hU:U.length≤3000)
 (hφ:φ (.inr (U,st))):∀(r i:Nat) {u:List UInt8},i≤l.length→l.length - i<r→u ++ uL t (l.drop i)=U→T φ (bY R t d x r u (i:Int) st)
 | 0,i,_,_,h,_=>by omega
 | r + 1, i, u, hi, hr, hu => by
   unfold bY
   have hln:lenOf x=.some l.length:=by rw[s9 hx (by decide),vY,Nat.mul_div_cancel _ (by decide)]
   refine T.step hln ?_
   have e1:IntKind.wrap .i64 ((i:Int)+1)=((i+1:Nat):Int):=by rw[wrap64 (by omega) (by omega)]; omega
   rw[e1]
   by_cases hlt:i+1<l.length
   ·refine T.jC (by omega) ?_
    obtain⟨a,b,h1,h2,h3,h4⟩:=Hk ho hlt
    have hs:=N0 (s:=t) hlt
    rw[h1,h2,Int.toNat_natCast,Int.toNat_natCast] at hs
    refine T.step (FQ hx (by omega)) ?_
    refine T.step Pf ?_
    refine T.step v3 ?_
    rw[h1]
    refine T.step PX ?_
    refine T.lG (by omega) ?_
    refine T.step (FQ hx hlt) ?_
    refine T.step Pf ?_
    refine T.step v3 ?_
    rw[h2]
    refine T.step PX ?_
    refine T.lG (by omega) ?_
    refine T.lG (by omega) ?_
    refine T.step (xP h3 h4) ?_
    rw[hs,← List.append_assoc] at hu
    have hlen:=congrArg List.length hu
    simp only[List.length_append,List.length_cons,List.length_nil] at hlen
    refine T.step (iB (by simp only[List.length_cons,List.length_nil]; omega)) ?_
    refine T.step (iB (by simp only[List.length_append,List.length_cons,List.length_nil]; omega)) ?_
    exact M8 hx hl ho hU hφ r (i+1) (by omega) (by omega) hu
   ·refine T.lG (by omega) ?_
    rw[Oj hlt,List.append_nil] at hu
    subst hu
    exact T.some hφ
theorem No {m:Sm}{vk vn nv ev wk wn cv:AV}(hm:RS m vk vn nv ev wk wn cv):AV.beq (.agg [.int .i64 m.k,.str m.t,.str m.f,.int .i64 m.v.k,.str m.v.s,.int .i64 m.v.v.k,.bool m.v.v.b,.int .i64 m.v.v.n,.str m.v.v.s,.aB,.aB,vk,vn,nv,ev,.int .i64 m.w.k,.str m.w.s,.int .i64 m.w.v.k,.bool m.w.v.b,.int .i64 m.w.v.n,.str m.w.v.s,.aB,.aB,wk,wn,cv,.bool m.c,.bool m.h,.str m.o,.bool m.d,.int .i64 m.l]) (.agg [.int .i64 m.k,.str m.t,.str m.f,.int .i64 m.v.k,.str m.v.s,.int .i64 m.v.v.k,.bool m.v.v.b,.int .i64 m.v.v.n,.str m.v.v.s,.aB,.aB,vk,vn,nv,ev,.int .i64 m.w.k,.str m.w.s,.int .i64 m.w.v.k,.bool m.w.v.b,.int .i64 m.w.v.n,.str m.w.v.s,.aB,.aB,wk,wn,cv,.bool m.c,.bool m.h,.str m.o,.bool m.d,.int .i64 m.l])=true:=by
 obtain⟨kc1,a1,a2,a3⟩:=hm.v.inv
 obtain⟨kc2,b1,b2,b3⟩:=hm.w.inv
 obtain⟨kc3,c1,c2⟩:=hm.exprs
 have e1:=AT a1 a3
 have e2:=qZ a2
 have e3:=AT b1 b3
 have e4:=qZ b2
 have e5:=AT c1 c2
 have e6:=qZ hm.names
 have e7:=qZ hm.nG
 show AV.vG [.int .i64 m.k,.str m.t,.str m.f,.int .i64 m.v.k,.str m.v.s,.int .i64 m.v.v.k,.bool m.v.v.b,.int .i64 m.v.v.n,.str m.v.v.s,.aB,.aB,vk,vn,nv,ev,.int .i64 m.w.k,.str m.w.s,.int .i64 m.w.v.k,.bool m.w.v.b,.int .i64 m.w.v.n,.str m.w.v.s,.aB,.aB,wk,wn,cv,.bool m.c,.bool m.h,.str m.o,.bool m.d,.int .i64 m.l] [.int .i64 m.k,.str m.t,.str m.f,.int .i64 m.v.k,.str m.v.s,.int .i64 m.v.v.k,.bool m.v.v.b,.int .i64 m.v.v.n,.str m.v.v.s,.aB,.aB,vk,vn,nv,ev,.int .i64 m.w.k,.str m.w.s,.int .i64 m.w.v.k,.bool m.w.v.b,.int .i64 m.w.v.n,.str m.w.v.s,.aB,.aB,wk,wn,cv,.bool m.c,.bool m.h,.str m.o,.bool m.d,.int .i64 m.l]=true
 refine CL fun x hx=>?_
 simp only[List.mem_cons,List.not_mem_nil,or_false] at hx
 rcases hx with rfl | rfl | rfl | rfl | rfl | rfl | rfl | rfl | rfl | rfl | rfl | rfl | rfl | rfl | rfl | rfl | rfl | rfl | rfl | rfl | rfl | rfl | rfl | rfl | rfl | rfl | rfl | rfl | rfl | rfl | rfl <;> first | assumption | exact wR _ _ | exact tR _ | exact Hf _ | rfl
theorem LL {R : Nat} (hR : 1000000 < R) {t : List UInt8} (ht : t.length ≤ 500) {st : St} (hO : Old st) : T (fun r : Bool × St => r.1 = true) (
 Option.bind (jY R t st) fun(i6275,s6276,s6277,i6278,s6279,i6280,b6281,i6282,s6283,x6284,x6285,x6286,x6287,x6288,x6289,i6290,s6291,i6292,b6293,i6294,s6295,x6296,x6297,x6298,x6299,x6300,b6301,b6302,s6303,b6304,i6305,i6306,i6307,st6309)=>
 Option.bind (storeAt C0.P (St.push st6309 (.cells 34 true [(.int .i64 0),(.str []),(.str []),(.int .i64 0),(.str []),(.int .i64 0),(.bool false),(.int .i64 0),(.str []),AV.aB,AV.aB,AV.aB,AV.aB,AV.aB,AV.aB,(.int .i64 0),(.str []),(.int .i64 0),(.bool false),(.int .i64 0),(.str []),AV.aB,AV.aB,AV.aB,AV.aB,AV.aB,(.bool false),(.bool false),(.str []),(.bool false),(.int .i64 0)])) 34 (.ref (St.next st6309) 0) (.agg [(.int .i64 i6275),(.str s6276),(.str s6277),(.int .i64 i6278),(.str s6279),(.int .i64 i6280),(.bool b6281),(.int .i64 i6282),(.str s6283),x6284,x6285,x6286,x6287,x6288,x6289,(.int .i64 i6290),(.str s6291),(.int .i64 i6292),(.bool b6293),(.int .i64 i6294),(.str s6295),x6296,x6297,x6298,x6299,x6300,(.bool b6301),(.bool b6302),(.str s6303),(.bool b6304),(.int .i64 i6305)])) fun st6311=>
 Option.bind (qH R t st6311) fun(x6312,i6313,i6314,st6316)=>
 if (i6307 = 0) then
  if (i6314 = 0) then
   Option.bind (bY R t (St.next st6309) x6312 R [] 0 st6316) fun o=>match o with
   | .inl (b6388,st6389)=>
    .some (b6388,st6389)
   | .inr (s6390, st6391) =>
    Option.bind (jY R s6390 st6391) fun(i6392,s6393,s6394,i6395,s6396,i6397,b6398,i6399,s6400,x6401,x6402,x6403,x6404,x6405,x6406,i6407,s6408,i6409,b6410,i6411,s6412,x6413,x6414,x6415,x6416,x6417,b6418,b6419,s6420,b6421,i6422,i6423,i6424,st6426)=>
    Option.bind (storeAt C0.P (St.push st6426 (.cells 34 true [(.int .i64 0),(.str []),(.str []),(.int .i64 0),(.str []),(.int .i64 0),(.bool false),(.int .i64 0),(.str []),AV.aB,AV.aB,AV.aB,AV.aB,AV.aB,AV.aB,(.int .i64 0),(.str []),(.int .i64 0),(.bool false),(.int .i64 0),(.str []),AV.aB,AV.aB,AV.aB,AV.aB,AV.aB,(.bool false),(.bool false),(.str []),(.bool false),(.int .i64 0)])) 34 (.ref (St.next st6426) 0) (.agg [(.int .i64 i6392),(.str s6393),(.str s6394),(.int .i64 i6395),(.str s6396),(.int .i64 i6397),(.bool b6398),(.int .i64 i6399),(.str s6400),x6401,x6402,x6403,x6404,x6405,x6406,(.int .i64 i6407),(.str s6408),(.int .i64 i6409),(.bool b6410),(.int .i64 i6411),(.str s6412),x6413,x6414,x6415,x6416,x6417,(.bool b6418),(.bool b6419),(.str s6420),(.bool b6421),(.int .i64 i6422)])) fun st6428=>
    Option.bind (xI R) fun b6429=>
    if b6429 = true then
     if (i6424 = 0) then
      Option.bind (loadAt C0.P st6428 34 (.ref (St.next st6309) 0)) fun x6434=>
      Option.bind (aD x6434) fun(i6435,s6436,s6437,i6438,s6439,i6440,b6441,i6442,s6443,x6444,x6445,x6446,x6447,x6448,x6449,i6450,s6451,i6452,b6453,i6454,s6455,x6456,x6457,x6458,x6459,x6460,b6461,b6462,s6463,b6464,i6465)=>
      Option.bind (loadAt C0.P st6428 34 (.ref (St.next st6426) 0)) fun x6468=>
      Option.bind (aD x6468) fun(i6469,s6470,s6471,i6472,s6473,i6474,b6475,i6476,s6477,x6478,x6479,x6480,x6481,x6482,x6483,i6484,s6485,i6486,b6487,i6488,s6489,x6490,x6491,x6492,x6493,x6494,b6495,b6496,s6497,b6498,i6499)=>
      Option.bind (eJ R i6435 s6436 s6437 i6438 s6439 i6440 b6441 i6442 s6443 x6444 x6445 x6446 x6447 x6448 x6449 i6450 s6451 i6452 b6453 i6454 s6455 x6456 x6457 x6458 x6459 x6460 b6461 b6462 s6463 b6464 i6465 st6428) fun(s6501,x6502,st6504)=>
      Option.bind (loadAt C0.P st6504 34 (.ref (St.next st6426) 0)) fun x6505=>
      if AV.beq x6505 (.agg [(.int .i64 i6469), (.str s6470), (.str s6471), (.int .i64 i6472), (.str s6473), (.int .i64 i6474), (.bool b6475), (.int .i64 i6476), (.str s6477), x6478, x6479, x6480, x6481, x6482, x6483, (.int .i64 i6484), (.str s6485), (.int .i64 i6486), (.bool b6487), (.int .i64 i6488), (.str s6489), x6490, x6491, x6492, x6493, x6494, (.bool b6495), (.bool b6496), (.str s6497), (.bool b6498), (.int .i64 i6499)]) = true then
       Option.bind (eH R s6501 x6502 st6504) fun(s6508,st6510)=>
       Option.bind (loadAt C0.P st6510 34 (.ref (St.next st6426) 0)) fun x6511=>
       if AV.beq x6511 (.agg [(.int .i64 i6469),(.str s6470),(.str s6471),(.int .i64 i6472),(.str s6473),(.int .i64 i6474),(.bool b6475),(.int .i64 i6476),(.str s6477),x6478,x6479,x6480,x6481,x6482,x6483,(.int .i64 i6484),(.str s6485),(.int .i64 i6486),(.bool b6487),(.int .i64 i6488),(.str s6489),x6490,x6491,x6492,x6493,x6494,(.bool b6495),(.bool b6496),(.str s6497),(.bool b6498),(.int .i64 i6499)])=true then
        Option.bind (eJ R i6469 s6470 s6471 i6472 s6473 i6474 b6475 i6476 s6477 x6478 x6479 x6480 x6481 x6482 x6483 i6484 s6485 i6486 b6487 i6488 s6489 x6490 x6491 x6492 x6493 x6494 b6495 b6496 s6497 b6498 i6499 st6510) fun(s6514,x6515,st6517)=>
        Option.bind (eH R s6514 x6515 st6517) fun(s6518,st6520)=>
        if(s6508=s6518) then
         .some (true,st6520)
        else
         .some (false,st6520)
       else
        none
      else
       none
     else
      .some (false,st6428)
    else
     .some (false,st6428)
  else
   Option.bind (xI R) fun b6522=>
   .some (b6522,st6316)
 else
  Option.bind (xI R) fun b6524=>
  .some (b6524,st6316)):=by
 refine T.bind (Jr (by omega) (by omega) hO (fun a e st1 hno hne k1=>?_) (fun m st1 vk vn nv ev wk wn cv hpk hm hsg k1=>?_))
 ·repeat(refine T.step (by simp(disch:=(first | ((repeat(first | rw[aC] | rw[aE] | rw[List.length_cons] | rw[List.length_nil])) <;> omega) | (refine(?_:_∧True).1; constructor; simp only[aM, *]; exact True.intro))) only[bB]; try exact rfl) ?_)
  refine T.bind (Gv (by omega) (by omega) (fun j st2 hw k2=>?_) (fun x st2 hw hrow hl k2=>?_))
  ·refine T.lG hne ?_
   refine T.step rfl ?_
   exact T.some rfl
  ·refine T.lG hne ?_
   refine T.step rfl ?_
   exact T.some rfl
 ·obtain⟨o1,o2,o3,o4,o5,o6,o7⟩:=hm.IP
  repeat(refine T.step (by simp(disch:=(first | ((repeat(first | rw[aC] | rw[aE] | rw[List.length_cons] | rw[List.length_nil])) <;> omega) | (refine(?_:_∧True).1; constructor; simp only[aM, *]; exact True.intro))) only[bB]; try exact rfl) ?_)
  have n_k1:=k1.le; (try simp only[aC,aE] at n_k1)
  have K1:KN st ((st1.push (.cells 34 true [.int .i64 0,.str [],.str [],(.int .i64 0),(.str []),(.int .i64 0),(.bool false),(.int .i64 0),(.str []),AV.aB,AV.aB,AV.aB,AV.aB,.aB,.aB,(.int .i64 0),(.str []),(.int .i64 0),(.bool false),(.int .i64 0),(.str []),AV.aB,AV.aB,AV.aB,AV.aB,.aB,.bool false,.bool false,.str [],.bool false,.int .i64 0])).put st1.next (.cells 34 true [.int .i64 m.k,.str m.t,.str m.f,.int .i64 m.v.k,.str m.v.s,.int .i64 m.v.v.k,.bool m.v.v.b,.int .i64 m.v.v.n,.str m.v.v.s,.aB,.aB,vk,vn,nv,ev,.int .i64 m.w.k,.str m.w.s,.int .i64 m.w.v.k,.bool m.w.v.b,.int .i64 m.w.v.n,.str m.w.v.s,.aB,.aB,wk,wn,cv,.bool m.c,.bool m.h,.str m.o,.bool m.d,.int .i64 m.l])):=(by repeat' (first | exact k1 | exact KN.refl | refine KN.eI ?_ | refine KN.loc ?_ ?_ | ((try simp only[aC,aE]) <;> omega)))
  refine T.bind (Gv (by omega) (by omega) (fun j st2 hw k2=>?_) (fun x st2 hw hrow hl k2=>?_))
  ·have:=hpk.1
   rw[hw] at this
   cases this
  ·refine T.jC rfl ?_
   refine T.jC rfl ?_
   obtain⟨b1,b2,b3,b4⟩:=G3 hw
   have hwl:=Ds (s:=t)
   have n_k2:=k2.le; (try simp only[aC,aE] at n_k2)
   have K2:=K1.trans k2
   have g2:st2.aS.get st1.next=.some (.cells 34 true [.int .i64 m.k,.str m.t,.str m.f,.int .i64 m.v.k,.str m.v.s,.int .i64 m.v.v.k,.bool m.v.v.b,.int .i64 m.v.v.n,.str m.v.v.s,.aB,.aB,vk,vn,nv,ev,.int .i64 m.w.k,.str m.w.s,.int .i64 m.w.v.k,.bool m.w.v.b,.int .i64 m.w.v.n,.str m.w.v.s,.aB,.aB,wk,wn,cv,.bool m.c,.bool m.h,.str m.o,.bool m.d,.int .i64 m.l]):=by simp(disch:=(first | ((repeat(first | rw[aC] | rw[aE] | rw[List.length_cons] | rw[List.length_nil])) <;> omega) | (refine(?_:_∧True).1; constructor; simp only[aM, *]; exact True.intro))) only[dH,k2.2.1]
   refine T.bind (M8 hrow (by omega) b3 (by omega) ?_ R 0 (U:=uL t (nE t)) (Nat.zero_le _) (by omega) rfl)
   have hsame:=N4 b2
   have hpk2:PK R (uL t (nE t)) m:=by
    obtain⟨p0,z',p1,p2,p3⟩:=hpk
    exact⟨b1,z',by rw[Nz hsame]; exact p1,p2,by rw[(hsame z'.i).1]; exact p3⟩
   refine T.bind (Jr (by omega) (by omega) (hO.BP (KN.kp (p:=0) (q:=0) K2)) (fun a e st3 hno hne k3=>absurd ⟨m,hpk2⟩ hno) (fun m' st3 vk' vn' nv' ev' wk' wn' cv' hpk' hm' hsg' k3=>?_))
   obtain rfl:=hpk2.uniq hpk'
   obtain⟨q1,q2,q3,q4,q5,q6,q7⟩:=hm'.IP
   have n_k3:=k3.le; (try simp only[aC,aE] at n_k3)
   have K3:=K2.trans k3
   have n_K3:=K3.le; (try simp only[aC,aE] at n_K3)
   have g3:st3.aS.get st1.next=.some (.cells 34 true [.int .i64 m.k,.str m.t,.str m.f,.int .i64 m.v.k,.str m.v.s,.int .i64 m.v.v.k,.bool m.v.v.b,.int .i64 m.v.v.n,.str m.v.v.s,.aB,.aB,vk,vn,nv,ev,.int .i64 m.w.k,.str m.w.s,.int .i64 m.w.v.k,.bool m.w.v.b,.int .i64 m.w.v.n,.str m.w.v.s,.aB,.aB,wk,wn,cv,.bool m.c,.bool m.h,.str m.o,.bool m.d,.int .i64 m.l]):=by simp(disch:=(first | ((repeat(first | rw[aC] | rw[aE] | rw[List.length_cons] | rw[List.length_nil])) <;> omega) | (refine(?_:_∧True).1; constructor; simp only[aM, *]; exact True.intro))) only[dH,k3.2.1,g2]
   repeat(refine T.step (by simp(disch:=(first | ((repeat(first | rw[aC] | rw[aE] | rw[List.length_cons] | rw[List.length_nil])) <;> omega) | (refine(?_:_∧True).1; constructor; simp only[aM, *]; exact True.intro))) only[bB]; try exact rfl) ?_)
   refine T.step rfl ?_
   refine T.jC rfl ?_
   refine T.jC rfl ?_
   repeat(refine T.step (by simp(disch:=(first | ((repeat(first | rw[aC] | rw[aE] | rw[List.length_cons] | rw[List.length_nil])) <;> omega) | (refine(?_:_∧True).1; constructor; simp only[aM, *]; exact True.intro))) only[bB,g3]; try exact rfl) ?_)
   have K4:KN st ((st3.push (.cells 34 true [.int .i64 0,.str [],.str [],(.int .i64 0),(.str []),(.int .i64 0),(.bool false),(.int .i64 0),(.str []),AV.aB,AV.aB,AV.aB,AV.aB,.aB,.aB,(.int .i64 0),(.str []),(.int .i64 0),(.bool false),(.int .i64 0),(.str []),AV.aB,AV.aB,AV.aB,AV.aB,.aB,.bool false,.bool false,.str [],.bool false,.int .i64 0])).put st3.next (.cells 34 true [.int .i64 m.k,.str m.t,.str m.f,.int .i64 m.v.k,.str m.v.s,.int .i64 m.v.v.k,.bool m.v.v.b,.int .i64 m.v.v.n,.str m.v.v.s,.aB,.aB,vk',vn',nv',ev',.int .i64 m.w.k,.str m.w.s,.int .i64 m.w.v.k,.bool m.w.v.b,.int .i64 m.w.v.n,.str m.w.v.s,.aB,.aB,wk',wn',cv',.bool m.c,.bool m.h,.str m.o,.bool m.d,.int .i64 m.l])):=(by repeat' (first | exact K3 | exact KN.refl | refine KN.eI ?_ | refine KN.loc ?_ ?_ | ((try simp only[aC,aE]) <;> omega)))
   refine T.bind (KB hR hm (hO.BP (KN.kp (p:=0) (q:=0) K4)) hsg.1 fun tv st5 ht5 k5=>?_)
   have n_k5:=k5.le; (try simp only[aC,aE] at n_k5)
   have g5:st5.aS.get st3.next=.some (.cells 34 true [.int .i64 m.k,.str m.t,.str m.f,.int .i64 m.v.k,.str m.v.s,.int .i64 m.v.v.k,.bool m.v.v.b,.int .i64 m.v.v.n,.str m.v.v.s,.aB,.aB,vk',vn',nv',ev',.int .i64 m.w.k,.str m.w.s,.int .i64 m.w.v.k,.bool m.w.v.b,.int .i64 m.w.v.n,.str m.w.v.s,.aB,.aB,wk',wn',cv',.bool m.c,.bool m.h,.str m.o,.bool m.d,.int .i64 m.l]):=by simp(disch:=(first | ((repeat(first | rw[aC] | rw[aE] | rw[List.length_cons] | rw[List.length_nil])) <;> omega) | (refine(?_:_∧True).1; constructor; simp only[aM, *]; exact True.intro))) only[dH,k5.2.1]
   repeat(refine T.step (by simp(disch:=(first | ((repeat(first | rw[aC] | rw[aE] | rw[List.length_cons] | rw[List.length_nil])) <;> omega) | (refine(?_:_∧True).1; constructor; simp only[aM, *]; exact True.intro))) only[bB,g5]; try exact rfl) ?_)
   refine T.jC (No hm') ?_
   refine T.bind (Ja hR ht5 hsg.2 fun st6 k6=>?_)
   have n_k6:=k6.le; (try simp only[aC,aE] at n_k6)
   have g6:st6.aS.get st3.next=.some (.cells 34 true [.int .i64 m.k,.str m.t,.str m.f,.int .i64 m.v.k,.str m.v.s,.int .i64 m.v.v.k,.bool m.v.v.b,.int .i64 m.v.v.n,.str m.v.v.s,.aB,.aB,vk',vn',nv',ev',.int .i64 m.w.k,.str m.w.s,.int .i64 m.w.v.k,.bool m.w.v.b,.int .i64 m.w.v.n,.str m.w.v.s,.aB,.aB,wk',wn',cv',.bool m.c,.bool m.h,.str m.o,.bool m.d,.int .i64 m.l]):=by simp(disch:=(first | ((repeat(first | rw[aC] | rw[aE] | rw[List.length_cons] | rw[List.length_nil])) <;> omega) | (refine(?_:_∧True).1; constructor; simp only[aM, *]; exact True.intro))) only[dH,k6.2.1,g5]
   have K6:=(K4.trans k5).trans k6
   repeat(refine T.step (by simp(disch:=(first | ((repeat(first | rw[aC] | rw[aE] | rw[List.length_cons] | rw[List.length_nil])) <;> omega) | (refine(?_:_∧True).1; constructor; simp only[aM, *]; exact True.intro))) only[bB,g6]; try exact rfl) ?_)
   refine T.jC (No hm') ?_
   refine T.bind (KB hR hm' (hO.BP (KN.kp (p:=0) (q:=0) K6)) hsg.1 fun tv2 st7 ht7 k7=>?_)
   refine T.bind (Ja hR ht7 hsg.2 fun st8 k8=>?_)
   refine T.jC rfl ?_
   exact T.some rfl
theorem CI {R:Nat}(hR:1000000<R)(s:List UInt8)(hs:s.length≤9223372036854775807){st:St}(hO:Old st):∃ st',fZ R s st=.some (true,st'):=by
 have:T (fun r:Bool×St=>r.1=true) (fZ R s st):=by
  unfold fZ
  by_cases h:s.length>500
  ·refine T.jC (by omega) ?_
   unfold fT
   refine T.bind (T.step (xP (a:=0) (b:=500) (by omega) (by omega)) (T.some ?_))
   exact LL hR (by rw[List.drop_zero,List.length_take]; omega) hO
  ·refine T.lG (by omega) ?_
   unfold fC
   refine T.step rfl ?_
   exact LL hR (by omega) hO
 obtain⟨⟨b,st'⟩,h1,h2⟩:=this
 exact⟨st',by rw[h1]; exact congrArg _ (congrArg (·,st') h2)⟩
end
end Go.Proofs.YthodfojhbbendaaDoor
end
section
set_option linter.all false
set_option maxRecDepth 100000
set_option maxHeartbeats 1000000
namespace Go.Proofs.YthodfojhbbendaaDoor
open Go Go.Ev Go.RowKit
noncomputable section
theorem Gp {H : Type} {enc : TypeId × Value → H} {P : Program} {w : World} {base : Nat} {sp : Nat → Bool} {held : Bool} {fuel : Nat} {t : TypeId} {cs : List Value} {x : DataW H} {p : List MemPlace}
 (h:DataW.trod enc P w base sp held fuel t cs=some (.ptr x,p)):∃ a,cs=[.pointer (some a)]:=by
 cases fuel with
 | zero=>simp[DataW.trod] at h
 | succ fuel =>
   unfold DataW.trod at h
   split at h
   all_goals first
    | exact⟨_,rfl⟩
    | (cases h; done)
    | (exfalso; split at h <;> (cases h; done))
    | skip
   case h_8=>
    dsimp only at h
    split at h
    ·obtain⟨e1,_,h⟩:=Option.bind_eq_some_iff.1 h
     obtain⟨e2,_,h⟩:=Option.map_eq_some_iff.1 h
     cases h
    ·cases h
   case h_9=>
    split at h
    ·obtain⟨xs,_,h⟩:=Option.map_eq_some_iff.1 h
     cases h
    ·cases h
   case h_10=>
    split at h
    ·obtain⟨xs,_,h⟩:=Option.map_eq_some_iff.1 h
     cases h
    ·cases h
   case h_12=>
    split at h
    ·cases h
    ·obtain⟨xs,_,h⟩:=Option.map_eq_some_iff.1 h
     cases h
    ·cases h
   case h_14=>
    split at h
    ·split at h
     ·obtain⟨en,_,h⟩:=Option.bind_eq_some_iff.1 h
      dsimp only at h
      split at h
      ·cases h
      ·cases h
     ·cases h
    ·cases h
theorem LB {P : Program} {w : World} {fuel : Nat} {t : TypeId} {cs : List Value} {nm : String} {d : DataW Unit} {p : List MemPlace} {ms : Array (String × TypeId)} (ht : P.underlying t = some (.interface ms))
 (h:DataW.trod (fun _=>()) P w 0 (fun _=>true) false fuel t cs=some (.iface nm (.ptr d),p)):∃ v a,cs=[v]∧zO a=true∧ ∀(G:Gh) (st:St) (w:World),aW G st w a v:=by
 cases fuel with
 | zero=>simp[DataW.trod] at h
 | succ fuel =>
   unfold DataW.trod at h
   rw[ht] at h
   split at h
   all_goals first
    | (cases h; done)
    | (rename_i heq; cases heq; done)
    | skip
   case h_12=>
    rename_i u v heq
    cases hn:P.typeName? 3 u with
    | none=>rw[hn] at h; cases h
    | some name =>
      rw[hn] at h
      obtain⟨y,hy,h⟩:=Option.map_eq_some_iff.1 h
      obtain⟨y1,y2⟩:=y
      cases h
      obtain⟨a,ha⟩:=Gp hy
      cases v with
      | agg vs =>
        refine⟨_,.iface u (.agg [.any]),rfl,rfl,fun G st w=>?_⟩
        simp only[aW]
        exact⟨_,rfl,_,rfl,_,_,ha,rfl,rfl⟩
      | tuple vs=>cases ha
      | _=>exact⟨_,.iface u .any,rfl,rfl,fun G st w=>by simp only[aW]; exact⟨_,rfl,rfl⟩⟩
theorem CT {P:Program}{w:World}{n:String}{d:DataW Unit}:∀{l:List (String×DataW Unit)} {ps:List MemPlace},DataW.LaidVars P w l ps→(n,d) ∈ l →
 ∃ g t cs fuel p,P.globalNamed n=some g∧(P.globals[g]?).map (·.type)=some t∧w.var? P n=some cs∧DataW.trod (fun _=>()) P w 0 (fun _=>true) false fuel t cs.toList=some (d,p)
 | (n', d') :: r, ps, h, hm => by
   obtain⟨g,t,cs,fuel,p,q,h1,h2,h3,h4,h5,_⟩:=h
   rcases List.mem_cons.1 hm with e | hm
   ·cases e
    exact⟨g,t,cs,fuel,p,h1,h2,h3,h4⟩
   ·exact CT h5 hm
theorem F2 {P:Program}{w:World}{n:String}{g:Nat}{cs:Array Value}(hg:P.globalNamed n=some g)(h:w.var? P n=some cs):∃ t z,w.heap[g]? =some (.cells cs t z):=by
 simp only[World.var?,hg,Option.bind_some] at h
 split at h
 ·rename_i a b c e
  cases h
  exact⟨_,_,e⟩
 ·cases h
theorem GU {w:World}{g:Nat}{o:Obj}(h:w.heap[g]? =some o):g<w.heap.size:=by
 obtain⟨h1,_⟩:=Array.getElem?_eq_some_iff.1 h
 exact h1
def Hn (a1 a2:AV):Nat→Nat→Option AV:=fun b off=>if b=0∧off=0 then some (.tuple (Go.Lib.pow10Tab.map (.int .u64))) else if b=1∧off=0 then some a1 else if b=2∧off=0 then some a2 else none
theorem F1:∀ l:List Int,Et (l.map (.int .u64)) l=true
 | []=>rfl
 | z :: l => by
   show(decide (z=z) && Et (l.map (.int .u64)) l)=true
   rw[F1 l,decide_eq_true rfl]; rfl
theorem OT {a1 a2:AV}(h1:zO a1=true)(h2:zO a2=true):Old ⟨.leaf,0,Hn a1 a2⟩:=
 ⟨⟨a1,rfl,h1⟩,⟨a2,rfl,h2⟩,F1 _⟩
theorem H6 {G:Gh}{st:St}{w:World}:∀ l:List Int,aT G st w (l.map (.int .u64)) (l.map fun z=>Value.int .u64 z)
 | []=>by simp only[List.map_nil,aT]
 | z :: l => by
   simp only[List.map_cons,aT]
   exact⟨_,_,rfl,by simp only[aW],H6 l⟩
def F6 {H:Type}:List (String×DataW H):=[("math/bits.deBruijn32tab",Rows.laid_math_bits_deBruijn32tab),("math/bits.deBruijn64tab",Rows.laid_math_bits_deBruijn64tab),("internal/strconv.uint64pow10",Rows.laid_internal_strconv_uint64pow10),("strconv.ErrRange",Rows.laid_strconv_ErrRange),("strconv.ErrSyntax",Rows.laid_strconv_ErrSyntax)]
theorem Lf {W : World} (h : laidMetH Tryd.prog F6 W) (hb : Go.RowKit.Below W.heap.size W W) : ∃ a1 a2, zO a1 = true ∧ zO a2 = true ∧ Inv W ⟨fun _ => none, fun _ => none⟩ ⟨.leaf, 0, Hn a1 a2⟩ W := by
 rw[Go.MakeChecks.laidMetH_plain _ _ _ (by kernel_rfl)] at h
 obtain⟨ps,hv,_,_⟩:=h
 obtain⟨g0,t0,cs0,f0,p0,x1,x2,x3,x4⟩:=CT (n:= "internal/strconv.uint64pow10") hv (.tail _ (.tail _ (.head _)))
 obtain⟨g2,t2,cs2,f2,p2,y1,y2,y3,y4⟩:=CT (n:= "strconv.ErrRange") hv (.tail _ (.tail _ (.tail _ (.head _))))
 obtain⟨g1,t1,cs1,f1,p1,z1,z2,z3,z4⟩:=CT (n:= "strconv.ErrSyntax") hv (.tail _ (.tail _ (.tail _ (.tail _ (.head _)))))
 obtain rfl:g0=0:=Option.some.inj (x1.symm.trans (by kernel_rfl))
 obtain rfl:g1=1:=Option.some.inj (z1.symm.trans (by kernel_rfl))
 obtain rfl:g2=2:=Option.some.inj (y1.symm.trans (by kernel_rfl))
 obtain rfl:t0=102:=Option.some.inj (x2.symm.trans (by kernel_rfl))
 obtain rfl:t1=82:=Option.some.inj (z2.symm.trans (by kernel_rfl))
 obtain rfl:t2=82:=Option.some.inj (y2.symm.trans (by kernel_rfl))
 have e0:cs0.toList=Go.Lib.pow10Tab.map fun z=>Value.int .u64 z:=Go.Lib.cells_of_tab (e:=88) (n:=20) (by kernel_rfl) (by kernel_rfl) (by kernel_rfl) (by kernel_rfl) x4
 obtain⟨v1,a1,c1,i1,r1⟩:=LB (ms:=#[("Error",63)]) (by kernel_rfl) z4
 obtain⟨v2,a2,c2,i2,r2⟩:=LB (ms:=#[("Error",63)]) (by kernel_rfl) y4
 obtain⟨s0,q0,m0⟩:=F2 x1 x3
 obtain⟨s1,q1,m1⟩:=F2 z1 z3
 obtain⟨s2,q2,m2⟩:=F2 y1 y3
 have k1:W.cell? ⟨1,0,none⟩=some v1:=by
  rw[World.var?_cell z1 z3 0,← Array.getElem?_toList,c1]; rfl
 have k2:W.cell? ⟨2,0,none⟩=some v2:=by
  rw[World.var?_cell y1 y3 0,← Array.getElem?_toList,c2]; rfl
 refine⟨a1,a2,i1,i2,?_⟩
 exact {
  below:=hb
  blt:=fun _ _ _ _ h=>by cases h
  zT:=fun _ _ _ _ _ _ _ h=>by cases h
  u5:=fun _ _ _ _ h=>by cases h
  A8:=fun _ _ _ _ h=>by cases h
  pK:=fun _ _ _ _ _ h=>by cases h
  n6:=fun _ _ _ _ _ _ _ h=>by cases h
  oR:=fun _ _ _ _ _ h=>by cases h
  fresh:=fun id _=>by simp[Tr.get]
  old := fun b off a h => by
   change Hn a1 a2 b off=some a at h
   unfold Hn at h
   split at h
   ·rename_i hh
    obtain⟨rfl,rfl⟩:=hh
    cases h
    refine⟨GU m0,(fun h=>by cases h),fun cs hc=>?_⟩
    cases hc
    refine⟨cs0,s0,q0,m0,fun G st w=>?_⟩
    rw[e0]
    exact H6 _
   ·split at h
    ·rename_i hh
     obtain⟨rfl,rfl⟩:=hh
     cases h
     refine⟨GU m1,fun _=>⟨v1,k1,r1⟩,fun cs hc=>?_⟩
     subst hc
     cases i1
    ·split at h
     ·rename_i hh
      obtain⟨rfl,rfl⟩:=hh
      cases h
      refine⟨GU m2,fun _=>⟨v2,k2,r2⟩,fun cs hc=>?_⟩
      subst hc
      cases i2
     ·cases h }
open Classical in
theorem walk (a0:ByteArray)(w0:a0.size≤maxLen)(W:World)(hl:laidMetH Tryd.prog F6 W):
 Calls Tryd.prog 5 #[.string a0] W fun e W'=>e=.returned (.bool true)∧Go.RowKit.Below W.heap.size W W':=by
 obtain⟨a1,a2,i1,i2,I⟩:=Lf hl (Go.RowKit.Below.refl _ _)
 obtain⟨st',h⟩:=CI (R:=2000000) (by decide) a0.data.toList (by have:a0.size≤9223372036854775807:=w0; simpa using this) (OT i1 i2)
 obtain⟨p,hc⟩:=s7 0 h
 have h1:=hc
 have h2:aR C0 cK 2000000 (0+24008) false 5 [.str a0.data.toList] ⟨.leaf,0,Hn a1 a2⟩ (fun _ v' _=>decide (v'=.bool true))=true:=by rw[hc]; exact decide_eq_true rfl
 rcases(zB (C:=C0) (W0:=W) F4 NX HY 2000000 _).1 5 _ _ _ h2 _ W #[.string a0] I (aT.cons (by simp only[aW]) aT.nil) with⟨u,w',v,st',G',c1,_⟩ | ⟨_,c2,_⟩
 ·exact(sF (by kernel_rfl) c1).elim
 ·refine Calls.mono (callsIn_wide.1 c2) fun e w' he=>?_
  obtain⟨u,v,st',G',rfl,hk,hg,hr⟩:=he
  simp only[Bool.or_self] at hk
  have:=of_decide_eq_true hk
  subst this
  simp only[aW] at hr
  subst hr
  exact⟨rfl,hg.inv.below⟩
end
end Go.Proofs.YthodfojhbbendaaDoor
end
