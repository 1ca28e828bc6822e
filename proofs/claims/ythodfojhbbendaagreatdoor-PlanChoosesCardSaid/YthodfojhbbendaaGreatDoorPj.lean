/- PlanChooses, part 10 of 11 of its proof (what is proved: whatever the text is, the law answers true; conditions: those each theorem states). Joined and shortened by a program. In order: PnD: The key of a literal, as the program and as the document have it; spans. | SynO | PnE: A comparison of a field with a literal: as the program and as the document tell it. | PnF: A comparison of a field with a literal, as the document tells it. | PnG: What AND joins, from the left: the program's and the document's way. | PnH: The plan, part by part: the program's and the document's way. | PnI: The plan as the document has it, part by part; both ways come to the same. | SxW | SynZ -/
import Derived.Test.YthodfojhbbendaaGreatDoorPi
import Derived.Test.YthodfojhbbendaaGreatDoorPh
import Derived.Test.YthodfojhbbendaaGreatDoorPe
import Derived.Test.YthodfojhbbendaaGreatDoorPf
section
set_option linter.all false
set_option maxRecDepth 100000
set_option maxHeartbeats 1000000
namespace Go.Proofs.YthodfojhbbendaaGreatDoor
open Go Go.Ev
noncomputable section
attribute [local congr] n7 sW
instance t33:nT C0.P 33 true 2:=⟨by kernel_rfl,by kernel_rfl⟩
instance Qt:nT C0.P 35 true 3:=⟨by kernel_rfl,by kernel_rfl⟩
instance R3:nT C0.P 46 false 1:=⟨by kernel_rfl,by kernel_rfl⟩
instance t48:nT C0.P 48 true 6:=⟨by kernel_rfl,by kernel_rfl⟩
instance t23:nT C0.P 23 false 1:=⟨by kernel_rfl,by kernel_rfl⟩
instance RJ:nT C0.P 2 false 1:=⟨by kernel_rfl,by kernel_rfl⟩
theorem zW {a b:List UInt8}:gU (.agg [.str a,.str b])=.some (a,b):=rfl
theorem Km {a b c:List UInt8}:qT (.agg [.str a,.str b,.str c])=.some (a,b,c):=rfl
theorem Jl {a:Int}{b:Bool}{c:Int}{d:List UInt8}{st:St}:oQ 25 (.agg [.int .i64 a,.bool b,.int .i64 c,.str d,.aF,.aF]) st=.some (.ref st.next 0,st.push (.cells 25 true [.int .i64 a,.bool b,.int .i64 c,.str d,.aF,.aF])):=rfl
theorem QG {a:Int}{b:Bool}{c:Int}{d:List UInt8}{st:St}:oQ 48 (.agg [.int .i64 a,.bool b,.int .i64 c,.str d,.aF,.aF]) st=.some (.ref st.next 0,st.push (.cells 48 true [.int .i64 a,.bool b,.int .i64 c,.str d,.aF,.aF])):=rfl
theorem Nh:lenOf .aF=.some 0:=rfl
def kb (k:Int):UInt8:=b8 (k % 256).toNat
theorem OP (k:Int):IntKind.wrap .u8 k=((kb k).toNat:Int):=by
 unfold kb
 rw[MD]
 show k % 256=_
 omega
def y9 (v:Vl):List UInt8:=if v.k=1 then(if v.b=true then [1] else [0]) else if v.k=2 then tb (OD v.n) 8 else if v.k=3 then DP v.s else if v.k=4 then DP v.s else if v.k=5 then [0] else if v.k=6 then [0] else []
def jS (v:Vl):List UInt8:=[kb v.k] ++ y9 v
theorem DA (s:List UInt8):(DP s).length≤2 * s.length+2:=by
 unfold DP
 have:=CW s
 simp only[List.length_append,List.length_cons,List.length_nil]
 omega
theorem Fa (v:Vl)(h:v.s.length≤10000000):(jS v).length≤20000010:=by
 unfold jS y9
 have:=DA v.s
 rw[List.length_append]
 repeat' split
 all_goals simp only[List.length_cons,List.length_nil,Az]
 all_goals omega
theorem QW {R : uJ} (hR : 100000000 < R.n) {v : Vl} (hs : v.s.length ≤ 10000000) {st : St} (hO : yG st) {φ : List UInt8 × St → Prop} (h : ∀ st1, KN st st1 → φ (jS v, st1)) : T φ (BJ R v.k v.b v.n v.s .aF .aF st) := by
 have hkt:=DA v.s
 have hl:∀{s:List UInt8} {x:AV} {st1:St},T φ (Option.bind (lB s [0]) fun s5=>.some (s5,st1))→T φ (Option.bind (dV R x s .aF ((0:Nat):Int) st1) fun o=>match o with | (s5,st5)=>Option.bind (lB s5 [0]) fun s6=>.some (s6,st5)):=by
  intro s x st1 h1
  unfold dV
  refine T.bind ?_
  obtain⟨r,hr⟩:∃ r,R.n=r+1:=⟨R.n - 1,by omega⟩
  rw[hr]
  unfold gP
  refine T.bind ?_
  refine T.gY (by omega) ?_
  refine T.some ?_
  exact T.some h1
 unfold BJ
 refine T.step Jl ?_
 have K1:KN st (st.push (.cells 25 true [.int .i64 v.k,.bool v.b,.int .i64 v.n,.str v.s,.aF,.aF])):=KN.refl.dX
 repeat(refine T.step (by simp(disch:=(first | ((repeat(first | rw[aB] | rw[aE] | rw[List.length_cons] | rw[List.length_nil])) <;> omega) | (refine(?_:_∧True).1; constructor; simp only[aL, *]; exact True.intro))) only[aX]; try exact rfl) ?_)
 rw[OP]
 refine T.step (Mb rfl) ?_
 refine T.step N0 ?_
 have K2:KN st ((st.push (.cells 25 true [.int .i64 v.k,.bool v.b,.int .i64 v.n,.str v.s,.aF,.aF])).push (.nE 1)):=K1.dX
 repeat(refine T.step (by simp(disch:=(first | ((repeat(first | rw[aB] | rw[aE] | rw[List.length_cons] | rw[List.length_nil])) <;> omega) | (refine(?_:_∧True).1; constructor; simp only[aL, *]; exact True.intro))) only[aX]; try exact rfl) ?_)
 by_cases h1:v.k=1
 ·refine T.fA h1 ?_
  repeat(refine T.step (by simp(disch:=(first | ((repeat(first | rw[aB] | rw[aE] | rw[List.length_cons] | rw[List.length_nil])) <;> omega) | (refine(?_:_∧True).1; constructor; simp only[aL, *]; exact True.intro))) only[aX]; try exact rfl) ?_)
  by_cases hb:v.b=true
  ·refine T.fA hb ?_
   refine T.step (lS (by simp)) ?_
   refine T.some ?_
   have e:jS v=[kb v.k] ++ [1]:=by unfold jS y9; rw[if_pos h1,if_pos hb]
   rw[← e]
   exact h _ K2
  ·refine T.gY hb ?_
   refine T.step (lS (by simp)) ?_
   refine T.some ?_
   have e:jS v=[kb v.k] ++ [0]:=by unfold jS y9; rw[if_pos h1,if_neg hb]
   rw[← e]
   exact h _ K2
 ·refine T.gY h1 ?_
  by_cases h2:v.k=2
  ·refine T.fA h2 ?_
   repeat(refine T.step (by simp(disch:=(first | ((repeat(first | rw[aB] | rw[aE] | rw[List.length_cons] | rw[List.length_nil])) <;> omega) | (refine(?_:_∧True).1; constructor; simp only[aL, *]; exact True.intro))) only[aX]; try exact rfl) ?_)
   rw[O2]
   refine T.bind (Lp hR fun st1 k1=>?_)
   refine T.step (lS (by rw[Az]; simp)) ?_
   refine T.some ?_
   have e:jS v=[kb v.k] ++ tb (OD v.n) 8:=by unfold jS y9; rw[if_neg h1,if_pos h2]
   rw[← e]
   exact h _ (K2.trans k1)
  ·refine T.gY h2 ?_
   have hstr:v.k=3∨v.k=4→T φ (Option.bind (rG R.n v.s ((st.push (.cells 25 true [.int .i64 v.k,.bool v.b,.int .i64 v.n,.str v.s,.aF,.aF])).push (.nE 1))) fun o=>match o with | (s4824,st4826)=>Option.bind (lB [kb v.k] s4824) fun s4828=>.some (s4828,st4826)):=fun hc=>by
    refine T.bind (P7 (hO.kn K2) hs ?_)
    refine T.step (lS (by simp only[List.length_cons,List.length_nil]; omega)) ?_
    refine T.some ?_
    have e:jS v=[kb v.k] ++ DP v.s:=by
     unfold jS y9
     rw[if_neg h1,if_neg h2]
     rcases hc with hc | hc
     ·rw[if_pos hc]
     ·rw[if_neg (by omega),if_pos hc]
    rw[← e]
    exact h _ K2
   by_cases h3:v.k=3
   ·refine T.fA h3 ?_
    refine T.step rfl ?_
    refine T.fA rfl ?_
    repeat(refine T.step (by simp(disch:=(first | ((repeat(first | rw[aB] | rw[aE] | rw[List.length_cons] | rw[List.length_nil])) <;> omega) | (refine(?_:_∧True).1; constructor; simp only[aL, *]; exact True.intro))) only[aX]; try exact rfl) ?_)
    exact hstr (.inl h3)
   ·refine T.gY h3 ?_
    unfold lD
    by_cases h4:v.k=4
    ·refine T.step (if_pos h4) ?_
     refine T.fA rfl ?_
     repeat(refine T.step (by simp(disch:=(first | ((repeat(first | rw[aB] | rw[aE] | rw[List.length_cons] | rw[List.length_nil])) <;> omega) | (refine(?_:_∧True).1; constructor; simp only[aL, *]; exact True.intro))) only[aX]; try exact rfl) ?_)
     exact hstr (.inr h4)
    ·refine T.step (if_neg h4) ?_
     refine T.gY (by decide) ?_
     have hlist:v.k=5∨v.k=6→T φ (Option.bind (lB [kb v.k] [0]) fun s5=>.some (s5,(st.push (.cells 25 true [.int .i64 v.k,.bool v.b,.int .i64 v.n,.str v.s,.aF,.aF])).push (.nE 1))):=fun hc=>by
      refine T.step (lS (by simp)) ?_
      refine T.some ?_
      have e:jS v=[kb v.k] ++ [0]:=by
       unfold jS y9
       rw[if_neg h1,if_neg h2,if_neg h3,if_neg h4]
       rcases hc with hc | hc
       ·rw[if_pos hc]
       ·rw[if_neg (by omega),if_pos hc]
      rw[← e]
      exact h _ K2
     by_cases h5:v.k=5
     ·refine T.fA h5 ?_
      refine T.step rfl ?_
      refine T.fA rfl ?_
      repeat(refine T.step (by simp(disch:=(first | ((repeat(first | rw[aB] | rw[aE] | rw[List.length_cons] | rw[List.length_nil])) <;> omega) | (refine(?_:_∧True).1; constructor; simp only[aL, *]; exact True.intro))) only[aX]; try exact rfl) ?_)
      refine T.step Nh ?_
      exact hl (hlist (.inl h5))
     ·refine T.gY h5 ?_
      unfold iC
      by_cases h6:v.k=6
      ·refine T.step (if_pos h6) ?_
       refine T.fA rfl ?_
       repeat(refine T.step (by simp(disch:=(first | ((repeat(first | rw[aB] | rw[aE] | rw[List.length_cons] | rw[List.length_nil])) <;> omega) | (refine(?_:_∧True).1; constructor; simp only[aL, *]; exact True.intro))) only[aX]; try exact rfl) ?_)
       refine T.step Nh ?_
       exact hl (hlist (.inr h6))
      ·refine T.step (if_neg h6) ?_
       refine T.gY (by decide) ?_
       refine T.some ?_
       have e:jS v=[kb v.k]:=by
        unfold jS y9
        rw[if_neg h1,if_neg h2,if_neg h3,if_neg h4,if_neg h5,if_neg h6]
        rfl
       rw[← e]
       exact h _ K2
theorem QC {R:CY}(hR:100000000<R.n){v:Vl}{st:St}{φ:Int×Bool×Int×List UInt8×AV×AV×St→Prop}(h:∀ st1,KN st st1→φ (v.k,v.b,v.n,v.s,.aF,.aF,st1)):T φ (jO R v.k v.b v.n v.s .aF .aF st):=by
 unfold jO
 refine T.step Jl ?_
 repeat(refine T.step (by simp(disch:=(first | ((repeat(first | rw[aB] | rw[aE] | rw[List.length_cons] | rw[List.length_nil])) <;> omega) | (refine(?_:_∧True).1; constructor; simp only[aL, *]; exact True.intro))) only[aX]; try exact rfl) ?_)
 unfold kB
 refine T.bind ?_
 obtain⟨r,hr⟩:∃ r,R.n=r+1:=⟨R.n - 1,by omega⟩
 rw[hr]
 unfold gR
 refine T.bind ?_
 repeat(refine T.step (by simp(disch:=(first | ((repeat(first | rw[aB] | rw[aE] | rw[List.length_cons] | rw[List.length_nil])) <;> omega) | (refine(?_:_∧True).1; constructor; simp only[aL, *]; exact True.intro))) only[aX]; try exact rfl) ?_)
 refine T.step Nh ?_
 refine T.gY (by decide) ?_
 refine T.some ?_
 refine T.some ?_
 repeat(refine T.step (by simp(disch:=(first | ((repeat(first | rw[aB] | rw[aE] | rw[List.length_cons] | rw[List.length_nil])) <;> omega) | (refine(?_:_∧True).1; constructor; simp only[aL, *]; exact True.intro))) only[aX]; try exact rfl) ?_)
 exact T.some (h _ (by repeat' (first | exact KN.refl | exact KN.refl | refine KN.dX ?_ | refine KN.loc ?_ ?_ | ((try simp only[aB,aE]) <;> omega))))
theorem PY {R : u5} (hR : 100000000 < R.n) {v : Vl} (hs : v.s.length ≤ 10000000) {st : St} {φ : List UInt8 × St → Prop} (h : ∀ st1, KN st st1 → φ (jS v, st1)) : T φ (jR R v.k v.b v.n v.s .aF .aF st) := by
 have hkt:=DA v.s
 have hl:∀{s:List UInt8} {st0 st1:St} {id:Nat},st1.aS.get id=.some (.cells 48 true [.int .i64 v.k,.bool v.b,.int .i64 v.n,.str v.s,.aF,.aF])→T φ (Option.bind (lB s [0]) fun s5=>.some (s5,st1))→T φ (Option.bind (bX R (.ref id 0) s st1) fun o=>match o with | (s5,st5)=>Option.bind (lB s5 [0]) fun s6=>.some (s6,st5)):=by
  intro s st0 st1 id hg h1
  unfold bX
  refine T.bind ?_
  obtain⟨r,hr⟩:∃ r,R.n=r+1:=⟨R.n - 1,by omega⟩
  rw[hr]
  unfold dO
  refine T.bind ?_
  repeat(refine T.step (by simp(disch:=(first | ((repeat(first | rw[aB] | rw[aE] | rw[List.length_cons] | rw[List.length_nil])) <;> omega) | (refine(?_:_∧True).1; constructor; simp only[aL, *]; exact True.intro))) only[aX,hg]; try exact rfl) ?_)
  refine T.step Nh ?_
  refine T.gY (by decide) ?_
  refine T.some ?_
  exact T.some h1
 unfold jR
 refine T.step QG ?_
 have K1:KN st (st.push (.cells 48 true [.int .i64 v.k,.bool v.b,.int .i64 v.n,.str v.s,.aF,.aF])):=KN.refl.dX
 repeat(refine T.step (by simp(disch:=(first | ((repeat(first | rw[aB] | rw[aE] | rw[List.length_cons] | rw[List.length_nil])) <;> omega) | (refine(?_:_∧True).1; constructor; simp only[aL, *]; exact True.intro))) only[aX]; try exact rfl) ?_)
 rw[OP]
 refine T.step (Mb rfl) ?_
 refine T.step N0 ?_
 have K2:KN st ((st.push (.cells 48 true [.int .i64 v.k,.bool v.b,.int .i64 v.n,.str v.s,.aF,.aF])).push (.nE 1)):=K1.dX
 have hg2:((st.push (.cells 48 true [.int .i64 v.k,.bool v.b,.int .i64 v.n,.str v.s,.aF,.aF])).push (.nE 1)).aS.get st.next=.some (.cells 48 true [.int .i64 v.k,.bool v.b,.int .i64 v.n,.str v.s,.aF,.aF]):=by simp(disch:=(first | ((repeat(first | rw[aB] | rw[aE] | rw[List.length_cons] | rw[List.length_nil])) <;> omega) | (refine(?_:_∧True).1; constructor; simp only[aL, *]; exact True.intro))) only[cD]
 repeat(refine T.step (by simp(disch:=(first | ((repeat(first | rw[aB] | rw[aE] | rw[List.length_cons] | rw[List.length_nil])) <;> omega) | (refine(?_:_∧True).1; constructor; simp only[aL, *]; exact True.intro))) only[aX]; try exact rfl) ?_)
 by_cases h1:v.k=1
 ·refine T.fA h1 ?_
  repeat(refine T.step (by simp(disch:=(first | ((repeat(first | rw[aB] | rw[aE] | rw[List.length_cons] | rw[List.length_nil])) <;> omega) | (refine(?_:_∧True).1; constructor; simp only[aL, *]; exact True.intro))) only[aX]; try exact rfl) ?_)
  by_cases hb:v.b=true
  ·refine T.fA hb ?_
   refine T.step (lS (by simp)) ?_
   refine T.some ?_
   have e:jS v=[kb v.k] ++ [1]:=by unfold jS y9; rw[if_pos h1,if_pos hb]
   rw[← e]
   exact h _ K2
  ·refine T.gY hb ?_
   refine T.step (lS (by simp)) ?_
   refine T.some ?_
   have e:jS v=[kb v.k] ++ [0]:=by unfold jS y9; rw[if_pos h1,if_neg hb]
   rw[← e]
   exact h _ K2
 ·refine T.gY h1 ?_
  by_cases h2:v.k=2
  ·refine T.fA h2 ?_
   repeat(refine T.step (by simp(disch:=(first | ((repeat(first | rw[aB] | rw[aE] | rw[List.length_cons] | rw[List.length_nil])) <;> omega) | (refine(?_:_∧True).1; constructor; simp only[aL, *]; exact True.intro))) only[aX]; try exact rfl) ?_)
   rw[NM]
   refine T.bind (NS hR (PV _) fun st1 k1=>?_)
   refine T.step (lS (by rw[Az]; simp)) ?_
   refine T.some ?_
   have e:jS v=[kb v.k] ++ tb (OD v.n) 8:=by unfold jS y9; rw[if_neg h1,if_pos h2]
   rw[← e]
   exact h _ (K2.trans k1)
  ·refine T.gY h2 ?_
   have hstr:v.k=3∨v.k=4→T φ (Option.bind (fO R.n v.s) fun s4824=>Option.bind (lB [kb v.k] s4824) fun s4828=>.some (s4828,((st.push (.cells 48 true [.int .i64 v.k,.bool v.b,.int .i64 v.n,.str v.s,.aF,.aF])).push (.nE 1)))):=fun hc=>by
    refine T.bind (NY hR hs ?_)
    refine T.step (lS (by simp only[List.length_cons,List.length_nil]; omega)) ?_
    refine T.some ?_
    have e:jS v=[kb v.k] ++ DP v.s:=by
     unfold jS y9
     rw[if_neg h1,if_neg h2]
     rcases hc with hc | hc
     ·rw[if_pos hc]
     ·rw[if_neg (by omega),if_pos hc]
    rw[← e]
    exact h _ K2
   by_cases h3:v.k=3
   ·refine T.fA h3 ?_
    refine T.step rfl ?_
    refine T.fA rfl ?_
    repeat(refine T.step (by simp(disch:=(first | ((repeat(first | rw[aB] | rw[aE] | rw[List.length_cons] | rw[List.length_nil])) <;> omega) | (refine(?_:_∧True).1; constructor; simp only[aL, *]; exact True.intro))) only[aX]; try exact rfl) ?_)
    exact hstr (.inl h3)
   ·refine T.gY h3 ?_
    unfold fI
    by_cases h4:v.k=4
    ·refine T.step (if_pos h4) ?_
     refine T.fA rfl ?_
     repeat(refine T.step (by simp(disch:=(first | ((repeat(first | rw[aB] | rw[aE] | rw[List.length_cons] | rw[List.length_nil])) <;> omega) | (refine(?_:_∧True).1; constructor; simp only[aL, *]; exact True.intro))) only[aX]; try exact rfl) ?_)
     exact hstr (.inr h4)
    ·refine T.step (if_neg h4) ?_
     refine T.gY (by decide) ?_
     have hlist:v.k=5∨v.k=6→T φ (Option.bind (lB [kb v.k] [0]) fun s5=>.some (s5,(st.push (.cells 48 true [.int .i64 v.k,.bool v.b,.int .i64 v.n,.str v.s,.aF,.aF])).push (.nE 1))):=fun hc=>by
      refine T.step (lS (by simp)) ?_
      refine T.some ?_
      have e:jS v=[kb v.k] ++ [0]:=by
       unfold jS y9
       rw[if_neg h1,if_neg h2,if_neg h3,if_neg h4]
       rcases hc with hc | hc
       ·rw[if_pos hc]
       ·rw[if_neg (by omega),if_pos hc]
      rw[← e]
      exact h _ K2
     by_cases h5:v.k=5
     ·refine T.fA h5 ?_
      refine T.step rfl ?_
      refine T.fA rfl ?_
      exact hl (st0:=st) hg2 (hlist (.inl h5))
     ·refine T.gY h5 ?_
      unfold dU
      by_cases h6:v.k=6
      ·refine T.step (if_pos h6) ?_
       refine T.fA rfl ?_
       exact hl (st0:=st) hg2 (hlist (.inr h6))
      ·refine T.step (if_neg h6) ?_
       refine T.gY (by decide) ?_
       refine T.some ?_
       have e:jS v=[kb v.k]:=by
        unfold jS y9
        rw[if_neg h1,if_neg h2,if_neg h3,if_neg h4,if_neg h5,if_neg h6]
        rfl
       rw[← e]
       exact h _ K2
theorem Nx {R k:Nat}:(Mv R k).n=R:=by cases k <;> rfl
theorem NL {R k:Nat}:(My R k).n=R:=by cases k <;> rfl
theorem Nu {R k:Nat}:(Mm R k).n=R:=by cases k <;> rfl
theorem Ln {R:Nat}(hR:100000000<R){v:Vl}(hs:v.s.length≤10000000){st:St}(hO:yG st){φ:List UInt8×St→Prop}(h:∀ st1,KN st st1→φ (jS v,st1)):T φ (uG R v.k v.b v.n v.s .aF .aF st):=QW (by rw[Nx]; exact hR) hs hO h
theorem Na {R:Nat}(hR:100000000<R){v:Vl}(hs:v.s.length≤10000000){st:St}(hO:yG st){φ:List UInt8×List UInt8×St→Prop}(h:∀ st1,KN st st1→φ (jS v,uE (jS v),st1)):T φ (wL R v.k v.b v.n v.s .aF .aF st):=by
 unfold wL
 refine T.step Jl ?_
 repeat(refine T.step (by simp(disch:=(first | ((repeat(first | rw[aB] | rw[aE] | rw[List.length_cons] | rw[List.length_nil])) <;> omega) | (refine(?_:_∧True).1; constructor; simp only[aL, *]; exact True.intro))) only[aX,zW]; try exact rfl) ?_)
 have K1:KN st ((st.push (.cells 25 true [.int .i64 v.k,.bool v.b,.int .i64 v.n,.str v.s,.aF,.aF])).push (.cells 33 true [.str [],.str []])):=KN.refl.dX.dX
 refine T.bind (Ln hR hs (hO.kn K1) fun st1 k1=>?_)
 have n_k1:=k1.le; (try simp only[aB,aE] at n_k1)
 have g1:st1.aS.get st.next=.some (.cells 25 true [.int .i64 v.k,.bool v.b,.int .i64 v.n,.str v.s,.aF,.aF]):=by simp(disch:=(first | ((repeat(first | rw[aB] | rw[aE] | rw[List.length_cons] | rw[List.length_nil])) <;> omega) | (refine(?_:_∧True).1; constructor; simp only[aL, *]; exact True.intro))) only[cD,k1.2.1]
 repeat(refine T.step (by simp(disch:=(first | ((repeat(first | rw[aB] | rw[aE] | rw[List.length_cons] | rw[List.length_nil])) <;> omega) | (refine(?_:_∧True).1; constructor; simp only[aL, *]; exact True.intro))) only[aX,g1]; try exact rfl) ?_)
 refine T.fA (by
  show AV.uN [.int .i64 v.k,.bool v.b,.int .i64 v.n,.str v.s,.aF,.aF] [.int .i64 v.k,.bool v.b,.int .i64 v.n,.str v.s,.aF,.aF]=true
  refine Aj fun x hx=>?_
  simp only[List.mem_cons,List.not_mem_nil,or_false] at hx
  rcases hx with rfl | rfl | rfl | rfl | rfl | rfl <;> first | exact vF _ _ | exact tL _ | exact EJ _ | rfl) ?_
 have K2:=K1.trans k1
 refine T.bind (Ln hR hs (hO.kn K2) fun st2 k2=>?_)
 have K3:=K2.trans k2
 refine T.bind (JM (Nat.le_trans (Fa v hs) (by decide)) hR fun st3 k3=>?_)
 have n_k2:=k2.le; (try simp only[aB,aE] at n_k2); have n_k3:=k3.le; (try simp only[aB,aE] at n_k3)
 have g3:st3.aS.get (st.next+1)=.some (.cells 33 true [.str [],.str []]):=by simp(disch:=(first | ((repeat(first | rw[aB] | rw[aE] | rw[List.length_cons] | rw[List.length_nil])) <;> omega) | (refine(?_:_∧True).1; constructor; simp only[aL, *]; exact True.intro))) only[cD,k3.2.1,k2.2.1,k1.2.1]
 repeat(refine T.step (by simp(disch:=(first | ((repeat(first | rw[aB] | rw[aE] | rw[List.length_cons] | rw[List.length_nil])) <;> omega) | (refine(?_:_∧True).1; constructor; simp only[aL, *]; exact True.intro))) only[aX,g3,zW]; try exact rfl) ?_)
 exact T.some (h _ (by repeat' (first | exact(K3.trans k3) | exact KN.refl | refine KN.dX ?_ | refine KN.loc ?_ ?_ | ((try simp only[aB,aE]) <;> omega))))
def sJ (sg k:List UInt8):List UInt8×List UInt8×Bool:=if sg=[61] then(k,uE k,true) else if sg=[60] then([],k,true) else if sg=[60,61] then([],uE k,true) else if sg=[62] then(uE k,[],true) else if sg=[62,61] then(k,[],true) else([],[],false)
theorem PT {R : Nat} (hR : 100000000 < R) {sg : List UInt8} {v : Vl} (hs : v.s.length ≤ 10000000) {st : St} (hO : yG st) {φ : List UInt8 × List UInt8 × Bool × St → Prop} (h : ∀ st1, KN st st1 → φ ((sJ sg (jS v)).1, (sJ sg (jS v)).2.1, (sJ sg (jS v)).2.2, st1)) : T φ (yW R sg v.k v.b v.n v.s .aF .aF st) := by
 unfold yW
 refine T.step Jl ?_
 repeat(refine T.step (by simp(disch:=(first | ((repeat(first | rw[aB] | rw[aE] | rw[List.length_cons] | rw[List.length_nil])) <;> omega) | (refine(?_:_∧True).1; constructor; simp only[aL, *]; exact True.intro))) only[aX,zW]; try exact rfl) ?_)
 have K1:KN st ((st.push (.cells 25 true [.int .i64 v.k,.bool v.b,.int .i64 v.n,.str v.s,.aF,.aF])).push (.cells 33 true [.str [],.str []])):=KN.refl.dX.dX
 refine T.bind (Ln hR hs (hO.kn K1) fun st1 k1=>?_)
 have n_k1:=k1.le; (try simp only[aB,aE] at n_k1)
 have g1:st1.aS.get st.next=.some (.cells 25 true [.int .i64 v.k,.bool v.b,.int .i64 v.n,.str v.s,.aF,.aF]):=by simp(disch:=(first | ((repeat(first | rw[aB] | rw[aE] | rw[List.length_cons] | rw[List.length_nil])) <;> omega) | (refine(?_:_∧True).1; constructor; simp only[aL, *]; exact True.intro))) only[cD,k1.2.1]
 have g2:st1.aS.get (st.next+1)=.some (.cells 33 true [.str [],.str []]):=by simp(disch:=(first | ((repeat(first | rw[aB] | rw[aE] | rw[List.length_cons] | rw[List.length_nil])) <;> omega) | (refine(?_:_∧True).1; constructor; simp only[aL, *]; exact True.intro))) only[cD,k1.2.1]
 have K2:=K1.trans k1
 have hkl:(jS v).length≤30000000:=Nat.le_trans (Fa v hs) (by decide)
 unfold sJ at h
 by_cases h1:sg=[61]
 ·rw[if_pos h1] at h
  refine T.fA h1 ?_
  repeat(refine T.step (by simp(disch:=(first | ((repeat(first | rw[aB] | rw[aE] | rw[List.length_cons] | rw[List.length_nil])) <;> omega) | (refine(?_:_∧True).1; constructor; simp only[aL, *]; exact True.intro))) only[aX,g1]; try exact rfl) ?_)
  refine T.bind (Na hR hs (hO.kn K2) fun st2 k2=>?_)
  have n_k2:=k2.le; (try simp only[aB,aE] at n_k2)
  have g3:st2.aS.get (st.next+1)=.some (.cells 33 true [.str [],.str []]):=by simp(disch:=(first | ((repeat(first | rw[aB] | rw[aE] | rw[List.length_cons] | rw[List.length_nil])) <;> omega) | (refine(?_:_∧True).1; constructor; simp only[aL, *]; exact True.intro))) only[cD,k2.2.1,g2,k1.2.1]
  repeat(refine T.step (by simp(disch:=(first | ((repeat(first | rw[aB] | rw[aE] | rw[List.length_cons] | rw[List.length_nil])) <;> omega) | (refine(?_:_∧True).1; constructor; simp only[aL, *]; exact True.intro))) only[aX,g3,zW]; try exact rfl) ?_)
  exact T.some (h _ (by repeat' (first | exact(K2.trans k2) | exact KN.refl | refine KN.dX ?_ | refine KN.loc ?_ ?_ | ((try simp only[aB,aE]) <;> omega))))
 ·rw[if_neg h1] at h
  refine T.gY h1 ?_
  by_cases h2:sg=[60]
  ·rw[if_pos h2] at h
   refine T.fA h2 ?_
   repeat(refine T.step (by simp(disch:=(first | ((repeat(first | rw[aB] | rw[aE] | rw[List.length_cons] | rw[List.length_nil])) <;> omega) | (refine(?_:_∧True).1; constructor; simp only[aL, *]; exact True.intro))) only[aX,g2,zW]; try exact rfl) ?_)
   exact T.some (h _ (by repeat' (first | exact KN.trans (by repeat' (first | exact KN.refl | exact KN.refl | refine KN.dX ?_ | refine KN.loc ?_ ?_ | ((try simp only[aB,aE]) <;> omega))) K2 | refine KN.dX ?_ | refine KN.loc ?_ ?_ | ((try simp only[aB,aE]) <;> omega))))
  ·rw[if_neg h2] at h
   refine T.gY h2 ?_
   by_cases h3:sg=[60,61]
   ·rw[if_pos h3] at h
    refine T.fA h3 ?_
    refine T.bind (JM hkl hR fun st2 k2=>?_)
    have n_k2:=k2.le; (try simp only[aB,aE] at n_k2)
    have g3:st2.aS.get (st.next+1)=.some (.cells 33 true [.str [],.str []]):=by simp(disch:=(first | ((repeat(first | rw[aB] | rw[aE] | rw[List.length_cons] | rw[List.length_nil])) <;> omega) | (refine(?_:_∧True).1; constructor; simp only[aL, *]; exact True.intro))) only[cD,k2.2.1,g2,k1.2.1]
    repeat(refine T.step (by simp(disch:=(first | ((repeat(first | rw[aB] | rw[aE] | rw[List.length_cons] | rw[List.length_nil])) <;> omega) | (refine(?_:_∧True).1; constructor; simp only[aL, *]; exact True.intro))) only[aX,g3,zW]; try exact rfl) ?_)
    exact T.some (h _ (by repeat' (first | exact(K2.trans k2) | exact KN.refl | refine KN.dX ?_ | refine KN.loc ?_ ?_ | ((try simp only[aB,aE]) <;> omega))))
   ·rw[if_neg h3] at h
    refine T.gY h3 ?_
    by_cases h4:sg=[62]
    ·rw[if_pos h4] at h
     refine T.fA h4 ?_
     refine T.bind (JM hkl hR fun st2 k2=>?_)
     have n_k2:=k2.le; (try simp only[aB,aE] at n_k2)
     have g3:st2.aS.get (st.next+1)=.some (.cells 33 true [.str [],.str []]):=by simp(disch:=(first | ((repeat(first | rw[aB] | rw[aE] | rw[List.length_cons] | rw[List.length_nil])) <;> omega) | (refine(?_:_∧True).1; constructor; simp only[aL, *]; exact True.intro))) only[cD,k2.2.1,g2,k1.2.1]
     repeat(refine T.step (by simp(disch:=(first | ((repeat(first | rw[aB] | rw[aE] | rw[List.length_cons] | rw[List.length_nil])) <;> omega) | (refine(?_:_∧True).1; constructor; simp only[aL, *]; exact True.intro))) only[aX,g3,zW]; try exact rfl) ?_)
     exact T.some (h _ (by repeat' (first | exact(K2.trans k2) | exact KN.refl | refine KN.dX ?_ | refine KN.loc ?_ ?_ | ((try simp only[aB,aE]) <;> omega))))
    ·rw[if_neg h4] at h
     refine T.gY h4 ?_
     by_cases h5:sg=[62,61]
     ·rw[if_pos h5] at h
      refine T.fA h5 ?_
      repeat(refine T.step (by simp(disch:=(first | ((repeat(first | rw[aB] | rw[aE] | rw[List.length_cons] | rw[List.length_nil])) <;> omega) | (refine(?_:_∧True).1; constructor; simp only[aL, *]; exact True.intro))) only[aX,g2,zW]; try exact rfl) ?_)
      exact T.some (h _ (by repeat' (first | exact KN.trans (by repeat' (first | exact KN.refl | exact KN.refl | refine KN.dX ?_ | refine KN.loc ?_ ?_ | ((try simp only[aB,aE]) <;> omega))) K2 | refine KN.dX ?_ | refine KN.loc ?_ ?_ | ((try simp only[aB,aE]) <;> omega))))
     ·rw[if_neg h5] at h
      refine T.gY h5 ?_
      repeat(refine T.step (by simp(disch:=(first | ((repeat(first | rw[aB] | rw[aE] | rw[List.length_cons] | rw[List.length_nil])) <;> omega) | (refine(?_:_∧True).1; constructor; simp only[aL, *]; exact True.intro))) only[aX,g2,zW]; try exact rfl) ?_)
      exact T.some (h _ (by repeat' (first | exact KN.trans (by repeat' (first | exact KN.refl | exact KN.refl | refine KN.dX ?_ | refine KN.loc ?_ ?_ | ((try simp only[aB,aE]) <;> omega))) K2 | refine KN.dX ?_ | refine KN.loc ?_ ?_ | ((try simp only[aB,aE]) <;> omega))))
def BY (al ah bl bh:List UInt8):List UInt8×List UInt8:=(cond (!strLt al bl) al bl,if ah=[] then bh else if bh=[] then ah else if strLt bh ah=true then bh else ah)
theorem Lw {R : Nat} {al ah bl bh : List UInt8} {st : St} {φ : List UInt8 × List UInt8 × St → Prop} (h : ∀ st1, KN st st1 → φ ((BY al ah bl bh).1, (BY al ah bl bh).2, st1)) : T φ (vX R al ah bl bh st) := by
 unfold vX oB mQ
 unfold BY at h
 repeat(refine T.step (by simp(disch:=(first | ((repeat(first | rw[aB] | rw[aE] | rw[List.length_cons] | rw[List.length_nil])) <;> omega) | (refine(?_:_∧True).1; constructor; simp only[aL, *]; exact True.intro))) only[aX,zW]; try exact rfl) ?_)
 by_cases h1:ah=[]
 ·rw[if_pos h1] at h
  refine T.fA h1 ?_
  refine T.bind ?_
  repeat(refine T.step (by simp(disch:=(first | ((repeat(first | rw[aB] | rw[aE] | rw[List.length_cons] | rw[List.length_nil])) <;> omega) | (refine(?_:_∧True).1; constructor; simp only[aL, *]; exact True.intro))) only[aX,zW]; try exact rfl) ?_)
  refine T.some ?_
  repeat(refine T.step (by simp(disch:=(first | ((repeat(first | rw[aB] | rw[aE] | rw[List.length_cons] | rw[List.length_nil])) <;> omega) | (refine(?_:_∧True).1; constructor; simp only[aL, *]; exact True.intro))) only[aX,zW]; try exact rfl) ?_)
  exact T.some (h _ (by repeat' (first | exact KN.refl | exact KN.refl | refine KN.dX ?_ | refine KN.loc ?_ ?_ | ((try simp only[aB,aE]) <;> omega))))
 ·rw[if_neg h1] at h
  refine T.gY h1 ?_
  repeat(refine T.step (by simp(disch:=(first | ((repeat(first | rw[aB] | rw[aE] | rw[List.length_cons] | rw[List.length_nil])) <;> omega) | (refine(?_:_∧True).1; constructor; simp only[aL, *]; exact True.intro))) only[aX,zW]; try exact rfl) ?_)
  by_cases h2:bh=[]
  ·rw[if_pos h2] at h
   refine T.fA h2 ?_
   refine T.step rfl ?_
   repeat(refine T.step (by simp(disch:=(first | ((repeat(first | rw[aB] | rw[aE] | rw[List.length_cons] | rw[List.length_nil])) <;> omega) | (refine(?_:_∧True).1; constructor; simp only[aL, *]; exact True.intro))) only[aX,zW]; try exact rfl) ?_)
   exact T.some (h _ (by repeat' (first | exact KN.refl | exact KN.refl | refine KN.dX ?_ | refine KN.loc ?_ ?_ | ((try simp only[aB,aE]) <;> omega))))
  ·rw[if_neg h2] at h
   refine T.gY h2 ?_
   by_cases h3:strLt bh ah=true
   ·rw[if_pos h3] at h
    refine T.fA h3 ?_
    refine T.bind ?_
    repeat(refine T.step (by simp(disch:=(first | ((repeat(first | rw[aB] | rw[aE] | rw[List.length_cons] | rw[List.length_nil])) <;> omega) | (refine(?_:_∧True).1; constructor; simp only[aL, *]; exact True.intro))) only[aX,zW]; try exact rfl) ?_)
    refine T.some ?_
    repeat(refine T.step (by simp(disch:=(first | ((repeat(first | rw[aB] | rw[aE] | rw[List.length_cons] | rw[List.length_nil])) <;> omega) | (refine(?_:_∧True).1; constructor; simp only[aL, *]; exact True.intro))) only[aX,zW]; try exact rfl) ?_)
    exact T.some (h _ (by repeat' (first | exact KN.refl | exact KN.refl | refine KN.dX ?_ | refine KN.loc ?_ ?_ | ((try simp only[aB,aE]) <;> omega))))
   ·rw[if_neg h3] at h
    refine T.gY h3 ?_
    refine T.step rfl ?_
    repeat(refine T.step (by simp(disch:=(first | ((repeat(first | rw[aB] | rw[aE] | rw[List.length_cons] | rw[List.length_nil])) <;> omega) | (refine(?_:_∧True).1; constructor; simp only[aL, *]; exact True.intro))) only[aX,zW]; try exact rfl) ?_)
    exact T.some (h _ (by repeat' (first | exact KN.refl | exact KN.refl | refine KN.dX ?_ | refine KN.loc ?_ ?_ | ((try simp only[aB,aE]) <;> omega))))
end
end Go.Proofs.YthodfojhbbendaaGreatDoor
end
section
set_option linter.all false
set_option maxRecDepth 100000
set_option maxHeartbeats 4000000
namespace Go.Proofs.YthodfojhbbendaaGreatDoor
open Go Go.Ev
noncomputable section
attribute [local congr] n7 sW
mutual
def Ex.ok:Ex→Prop
 | .mk _ _ v kids _=>v.ok∧QA kids
def QA:List Ex→Prop
 | []=>True
 | e :: l=>e.ok∧QA l
end
theorem Oj:∀ e:Ex,100≤e.wt
 | .mk _ _ _ _ _=>by simp only[Ex.wt]; omega
theorem RE.uK {e:Ex}{c:List AV}(h:RE e c):∃ kv nv,c=YthodfojhbbendaaGreatDoor.uK e kv nv∧RX e kv nv:=by
 cases h with
 | mk h1 h2 h3 h4=>exact⟨_,_,rfl,RE.mk h1 h2 h3 h4⟩
theorem RX.inv {e:Ex}{kv nv:AV}(h:RX e kv nv):∃ kcs,Row 10 kv kcs∧Row 1 nv (e.names.map .str)∧AQ e.kids kcs:=by
 unfold RX YthodfojhbbendaaGreatDoor.uK at h
 cases h with
 | mk h1 h2 h3 h4=>exact⟨_,h1,h2,h3,h4⟩
theorem Jo {st:St}{l:List (List UInt8)}{i:Nat}(hi:i<l.length):loadAt C0.P st 9 (.pM ((l.map AV.str).drop (i * 1)))=.some (.str l[i]):=by
 rw[Nat.mul_one,List.drop_eq_getElem_cons (by simpa using hi),Em,List.getElem_map]
def Fits (e:Ex)(k:Nat):Prop:=e.dp≤k∧e.wt≤10000000∧e.ok
end
end Go.Proofs.YthodfojhbbendaaGreatDoor
end
section
set_option linter.all false
set_option maxRecDepth 100000
set_option maxHeartbeats 4000000
namespace Go.Proofs.YthodfojhbbendaaGreatDoor
open Go Go.Ev
noncomputable section
attribute [local congr] n7 sW
instance RF:nT C0.P 28 true 10:=⟨by kernel_rfl,by kernel_rfl⟩
instance R0:nT C0.P 25 true 6:=⟨by kernel_rfl,by kernel_rfl⟩
theorem AZ {a b c d e f g h i j:AV}{t:TypeId}{u:Bool}:PI (.some (.cells t u [a,b,c,d,e,f,g,h,i,j])) 2 6=.some (.agg [c,d,e,f,g,h]):=rfl
theorem OF {a b c:AV}{t:TypeId}{u:Bool}:PI (.some (.cells t u [a,b,c])) 1 2=.some (.agg [b,c]):=rfl
theorem tJ {kcs:List AV}{l:List Ex}(h:AQ l kcs){i:Nat}(hi:i<l.length):∃ kv nv,(∀ st:St,loadAt C0.P st 28 (.pM (kcs.drop (i * 10)))=.some (.agg (uK l[i] kv nv)))∧RX l[i] kv nv:=by
 obtain⟨kv,nv,e,hx⟩:=(h.2 i hi).uK
 refine⟨kv,nv,fun st=>?_,hx⟩
 rw[Hm (n:=10) (by rw[List.length_drop,h.1]; omega),e]
theorem LX {e:Ex}{kv nv:AV}(h:RX e kv nv):AV.beq (.agg (uK e kv nv)) (.agg [.int .i64 e.k,.str e.s,.int .i64 e.v.k,.bool e.v.b,.int .i64 e.v.n,.str e.v.s,.aF,.aF,kv,nv])=true:=RE.uN h
theorem Fi {e:Ex}{kv nv:AV}:aD (.agg (uK e kv nv))=.some (e.k,e.s,e.v.k,e.v.b,e.v.n,e.v.s,.aF,.aF,kv,nv):=rfl
def FM (s:List UInt8):List UInt8:=if s=[60] then [62] else if s=[60,61] then [62,61] else if s=[62] then [60] else if s=[62,61] then [60,61] else s
theorem N3 (R:Nat)(s:List UInt8):uI R s=.some (FM s):=by
 unfold uI FM
 repeat' split
 all_goals rfl
def two (e : Ex) : Option (Ex × Ex) := if e.k = 6 then match e.kids with
 | [a,b]=>.some (a,b)
 | _=>none
 else none
theorem Qc (v:Vl):AV.beq (.agg [.int .i64 v.k,.bool v.b,.int .i64 v.n,.str v.s,.aF,.aF]) (.agg [.int .i64 v.k,.bool v.b,.int .i64 v.n,.str v.s,.aF,.aF])=true:=by
 show AV.uN [.int .i64 v.k,.bool v.b,.int .i64 v.n,.str v.s,.aF,.aF] [.int .i64 v.k,.bool v.b,.int .i64 v.n,.str v.s,.aF,.aF]=true
 refine Aj fun x hx=>?_
 simp only[List.mem_cons,List.not_mem_nil,or_false] at hx
 rcases hx with rfl | rfl | rfl | rfl | rfl | rfl <;> first | exact vF _ _ | exact tL _ | exact EJ _ | rfl
def Kp:List UInt8×List UInt8×Vl×Bool:=([],[],V0,false)
def gX (e:Ex):List UInt8×List UInt8×Vl×Bool:=match two e with
 | .some (a,b)=>if a.k=2 then(if b.k=1 then(a.s,e.s,b.v,true) else Kp) else if a.k=1 then(if b.k=2 then(b.s,FM e.s,a.v,true) else Kp) else Kp
 | none=>Kp
def Qm (r:List UInt8×List UInt8×Vl×Bool)(st:St)(φ:List UInt8×List UInt8×Int×Bool×Int×List UInt8×AV×AV×Bool×St→Prop):Prop:=∀ st1,KN st st1→φ (r.1,r.2.1,r.2.2.1.k,r.2.2.1.b,r.2.2.1.n,r.2.2.1.s,.aF,.aF,r.2.2.2,st1)
theorem ED {e:Ex}(h6:e.k=6)(h:e.kids.length=2):∃ a b,e.kids=[a,b]∧two e=.some (a,b):=by
 unfold two
 rw[if_pos h6]
 match hk:e.kids,h with
 | [a,b],_=>exact⟨a,b,rfl,rfl⟩
theorem tS {e:Ex}(h:e.k≠6∨e.kids.length≠2):two e=none:=by
 unfold two
 split
 ·rename_i h6
  rcases h with h | h
  ·exact absurd h6 h
  ·match hk:e.kids,h with
   | [],_=>rfl
   | [a],_=>rfl
   | [a,b],h=>exact absurd rfl h
   | a :: b :: c :: l,_=>rfl
 ·rfl
theorem Ku {e:Ex}{kv nv:AV}{st:St}(hx:RX e kv nv):oQ 28 (.agg [.int .i64 e.k,.str e.s,.int .i64 e.v.k,.bool e.v.b,.int .i64 e.v.n,.str e.v.s,.aF,.aF,kv,nv]) st=.some (.ref st.next 0,st.push (.cells 28 true [.int .i64 e.k,.str e.s,.int .i64 e.v.k,.bool e.v.b,.int .i64 e.v.n,.str e.v.s,.aF,.aF,kv,nv])):=ON rfl rfl hx.one.1 hx.one.2
theorem KW {e:Ex}{kcs:List AV}{kv:AV}(a1:Row 10 kv kcs)(a3:AQ e.kids kcs):lenOf kv=.some e.kids.length:=by
 rw[sO a1 (by decide),a3.1,Nat.mul_div_cancel _ (by decide)]
theorem Nv {R : Nat} {e : Ex} {kv nv : AV} (hx : RX e kv nv) {st : St} {φ : List UInt8 × List UInt8 × Int × Bool × Int × List UInt8 × AV × AV × Bool × St → Prop} (h : Qm (gX e) st φ) : T φ (wV R e.k e.s e.v.k e.v.b e.v.n e.v.s .aF .aF kv nv st) := by
 have hx1:=hx.one
 obtain⟨ok1,ok2⟩:=hx1
 obtain⟨kcs,a1,a2,a3⟩:=hx.inv
 unfold wV
 refine T.step (Ku hx) ?_
 repeat(refine T.step (by simp(disch:=(first | ((repeat(first | rw[aB] | rw[aE] | rw[List.length_cons] | rw[List.length_nil])) <;> omega) | (refine(?_:_∧True).1; constructor; simp only[aL, *]; exact True.intro))) only[aX]; try exact rfl) ?_)
 by_cases h6:e.k=6
 ·refine T.fA h6 ?_
  repeat(refine T.step (by simp(disch:=(first | ((repeat(first | rw[aB] | rw[aE] | rw[List.length_cons] | rw[List.length_nil])) <;> omega) | (refine(?_:_∧True).1; constructor; simp only[aL, *]; exact True.intro))) only[aX]; try exact rfl) ?_)
  refine T.step (KW a1 a3) ?_
  by_cases hl:e.kids.length=2
  ·refine T.fA (by omega) ?_
   obtain⟨a,b,hk,h2⟩:=ED h6 hl
   rw[hk] at a3
   unfold gX at h
   rw[h2] at h
   obtain⟨ka,na,la,xa⟩:=tJ a3 (show 0<[a,b].length from Nat.succ_pos _)
   obtain⟨kb,nb,lb,xb⟩:=tJ a3 (show 1<[a,b].length from Nat.lt_succ_self _)
   have xa1:=xa.one
   have xb1:=xb.one
   obtain⟨oa1,oa2⟩:=xa1
   obtain⟨ob1,ob2⟩:=xb1
   refine T.step (mM (sz:=10) (i:=0) a1 (by rw[a3.1]; simp only[List.length_cons,List.length_nil]; omega)) ?_
   refine T.step (la _) ?_
   refine T.step Fi ?_
   refine T.step (mM (sz:=10) (i:=1) a1 (by rw[a3.1]; simp only[List.length_cons,List.length_nil]; omega)) ?_
   refine T.step (lb _) ?_
   refine T.step Fi ?_
   repeat(refine T.step (by simp(disch:=(first | ((repeat(first | rw[aB] | rw[aE] | rw[List.length_cons] | rw[List.length_nil])) <;> omega) | (refine(?_:_∧True).1; constructor; simp only[aL, *]; exact True.intro))) only[aX]; try exact rfl) ?_)
   refine T.step (lb _) ?_
   refine T.fA (LX xb) ?_
   repeat(refine T.step (by simp(disch:=(first | ((repeat(first | rw[aB] | rw[aE] | rw[List.length_cons] | rw[List.length_nil])) <;> omega) | (refine(?_:_∧True).1; constructor; simp only[aL, *]; exact True.intro))) only[aX]; try exact rfl) ?_)
   refine T.fA (Ca a1 a3) ?_
   repeat(refine T.step (by simp(disch:=(first | ((repeat(first | rw[aB] | rw[aE] | rw[List.length_cons] | rw[List.length_nil])) <;> omega) | (refine(?_:_∧True).1; constructor; simp only[aL, *]; exact True.intro))) only[aX]; try exact rfl) ?_)
   dsimp only at h
   by_cases c1:a.k=2
   ·rw[if_pos c1] at h
    refine T.fA c1 ?_
    repeat(refine T.step (by simp(disch:=(first | ((repeat(first | rw[aB] | rw[aE] | rw[List.length_cons] | rw[List.length_nil])) <;> omega) | (refine(?_:_∧True).1; constructor; simp only[aL, *]; exact True.intro))) only[aX]; try exact rfl) ?_)
    by_cases c2:b.k=1
    ·rw[if_pos c2] at h
     refine T.fA c2 ?_
     repeat(refine T.step (by simp(disch:=(first | ((repeat(first | rw[aB] | rw[aE] | rw[List.length_cons] | rw[List.length_nil])) <;> omega) | (refine(?_:_∧True).1; constructor; simp only[aL, *]; exact True.intro))) only[aX,AZ]; try exact rfl) ?_)
     exact T.some (h _ (by repeat' (first | exact KN.refl | exact KN.refl | refine KN.dX ?_ | refine KN.loc ?_ ?_ | ((try simp only[aB,aE]) <;> omega))))
    ·rw[if_neg c2] at h
     refine T.gY c2 ?_
     repeat(refine T.step (by simp(disch:=(first | ((repeat(first | rw[aB] | rw[aE] | rw[List.length_cons] | rw[List.length_nil])) <;> omega) | (refine(?_:_∧True).1; constructor; simp only[aL, *]; exact True.intro))) only[aX,AZ]; try exact rfl) ?_)
     exact T.some (h _ (by repeat' (first | exact KN.refl | exact KN.refl | refine KN.dX ?_ | refine KN.loc ?_ ?_ | ((try simp only[aB,aE]) <;> omega))))
   ·rw[if_neg c1] at h
    refine T.gY c1 ?_
    by_cases c2:a.k=1
    ·rw[if_pos c2] at h
     refine T.fA c2 ?_
     repeat(refine T.step (by simp(disch:=(first | ((repeat(first | rw[aB] | rw[aE] | rw[List.length_cons] | rw[List.length_nil])) <;> omega) | (refine(?_:_∧True).1; constructor; simp only[aL, *]; exact True.intro))) only[aX]; try exact rfl) ?_)
     by_cases c3:b.k=2
     ·rw[if_pos c3] at h
      refine T.fA c3 ?_
      repeat(refine T.step (by simp(disch:=(first | ((repeat(first | rw[aB] | rw[aE] | rw[List.length_cons] | rw[List.length_nil])) <;> omega) | (refine(?_:_∧True).1; constructor; simp only[aL, *]; exact True.intro))) only[aX,AZ]; try exact rfl) ?_)
      refine T.step (N3 _ _) ?_
      refine T.fA (Qc _) ?_
      repeat(refine T.step (by simp(disch:=(first | ((repeat(first | rw[aB] | rw[aE] | rw[List.length_cons] | rw[List.length_nil])) <;> omega) | (refine(?_:_∧True).1; constructor; simp only[aL, *]; exact True.intro))) only[aX,AZ]; try exact rfl) ?_)
      exact T.some (h _ (by repeat' (first | exact KN.refl | exact KN.refl | refine KN.dX ?_ | refine KN.loc ?_ ?_ | ((try simp only[aB,aE]) <;> omega))))
     ·rw[if_neg c3] at h
      refine T.gY c3 ?_
      repeat(refine T.step (by simp(disch:=(first | ((repeat(first | rw[aB] | rw[aE] | rw[List.length_cons] | rw[List.length_nil])) <;> omega) | (refine(?_:_∧True).1; constructor; simp only[aL, *]; exact True.intro))) only[aX,AZ]; try exact rfl) ?_)
      exact T.some (h _ (by repeat' (first | exact KN.refl | exact KN.refl | refine KN.dX ?_ | refine KN.loc ?_ ?_ | ((try simp only[aB,aE]) <;> omega))))
    ·rw[if_neg c2] at h
     refine T.gY c2 ?_
     repeat(refine T.step (by simp(disch:=(first | ((repeat(first | rw[aB] | rw[aE] | rw[List.length_cons] | rw[List.length_nil])) <;> omega) | (refine(?_:_∧True).1; constructor; simp only[aL, *]; exact True.intro))) only[aX,AZ]; try exact rfl) ?_)
     exact T.some (h _ (by repeat' (first | exact KN.refl | exact KN.refl | refine KN.dX ?_ | refine KN.loc ?_ ?_ | ((try simp only[aB,aE]) <;> omega))))
  ·refine T.gY (by omega) ?_
   unfold gX at h
   rw[tS (.inr hl)] at h
   repeat(refine T.step (by simp(disch:=(first | ((repeat(first | rw[aB] | rw[aE] | rw[List.length_cons] | rw[List.length_nil])) <;> omega) | (refine(?_:_∧True).1; constructor; simp only[aL, *]; exact True.intro))) only[aX]; try exact rfl) ?_)
   exact T.some (h _ (by repeat' (first | exact KN.refl | exact KN.refl | refine KN.dX ?_ | refine KN.loc ?_ ?_ | ((try simp only[aB,aE]) <;> omega))))
 ·refine T.gY h6 ?_
  unfold gX at h
  rw[tS (.inl h6)] at h
  repeat(refine T.step (by simp(disch:=(first | ((repeat(first | rw[aB] | rw[aE] | rw[List.length_cons] | rw[List.length_nil])) <;> omega) | (refine(?_:_∧True).1; constructor; simp only[aL, *]; exact True.intro))) only[aX]; try exact rfl) ?_)
  exact T.some (h _ (by repeat' (first | exact KN.refl | exact KN.refl | refine KN.dX ?_ | refine KN.loc ?_ ?_ | ((try simp only[aB,aE]) <;> omega))))
end
end Go.Proofs.YthodfojhbbendaaGreatDoor
end
section
set_option linter.all false
set_option maxRecDepth 100000
set_option maxHeartbeats 4000000
namespace Go.Proofs.YthodfojhbbendaaGreatDoor
open Go Go.Ev
noncomputable section
attribute [local congr] n7 sW
theorem IS {st:St}{id c:Nat}{es:List (AV×AV×Nat)}{k v:AV}(hg:st.aS.get id=.some (.map es c))(he:((Dc C0.P 132 k).bind fun q=>yY C0.P q.1 k es 0)=.some none):qJ C0.P st 132 (.map id) k v=.some (st.put id (.map (es ++ [(k,v,c)]) (c+1))):=by
 unfold qJ
 obtain⟨q,h1,h2⟩:=Option.bind_eq_some_iff.1 he
 rw[h1]
 obtain⟨kt,et⟩:=q
 simp only[Option.bind_some,hg]
 dsimp only at h2
 rw[h2]
 rfl
def QV:List (AV×AV×Nat):=[(.str [60],.str [62],0),(.str [62],.str [60],1),(.str [60,61],.str [62,61],2),(.str [62,61],.str [60,61],3),(.str [61],.str [61],4)]
def BU (s:List UInt8):List UInt8:=if s=[60] then [62] else if s=[62] then [60] else if s=[60,61] then [62,61] else if s=[62,61] then [60,61] else if s=[61] then [61] else []
theorem LI {s w:List UInt8}{v:AV}{n i:Nat}{es:List (AV×AV×Nat)}:yY C0.P 9 (.str s) ((.str w,v,n) :: es) i=if s=w then .some (.some (i,v)) else yY C0.P 9 (.str s) es (i+1):=by
 have e:KL C0.P 9 (.str s) (.str w)=.some (gT s w):=by kernel_rfl
 show((KL C0.P 9 (.str s) (.str w)).bind fun b=>match b with | true=>.some (.some (i,v)) | false=>yY C0.P 9 (.str s) es (i+1))=_
 rw[e,Option.bind_some]
 split
 ·rename_i h; rw[if_pos (yU.1 h)]
 ·rename_i h; rw[if_neg (fun e=>by rw[dM e] at h; cases h)]
theorem Jd {st:St}{id:Nat}(hg:st.aS.get id=.some (.map QV 5))(s:List UInt8):pG C0.P st 132 (.map id) (.str s) false=.some (.str (BU s)):=by
 have e:Dc C0.P 132 (.str s)=.some (9,9):=by kernel_rfl
 have z:v7 C0.P 9=.some (.str []):=by kernel_rfl
 unfold pG
 rw[e]
 simp only[Option.bind_some,hg]
 unfold QV BU
 simp only[LI]
 repeat' split
 all_goals first | rfl | (simp_all[yY,z])
theorem PX {R:Nat}{d1 da db:Nat}{s:List UInt8}{st:St}{a b:Ex}{ka na kb nb:AV}(xa:RX a ka na)(xb:RX b kb nb)(hab:da≠db)(hla:da<st.next)(hlb:db<st.next)
 (ga:st.aS.get da=.some (.cells 28 true [.int .i64 a.k,.str a.s,.int .i64 a.v.k,.bool a.v.b,.int .i64 a.v.n,.str a.v.s,.aF,.aF,ka,na])) (gb:st.aS.get db=.some (.cells 28 true [.int .i64 b.k,.str b.s,.int .i64 b.v.k,.bool b.v.b,.int .i64 b.v.n,.str b.v.s,.aF,.aF,kb,nb])) {φ:List UInt8×St→Prop}
 (h:∀ st1,KP da db st st1→st1.aS.get da=.some (.cells 28 true [.int .i64 b.k,.str b.s,.int .i64 b.v.k,.bool b.v.b,.int .i64 b.v.n,.str b.v.s,.aF,.aF,kb,nb])→st1.aS.get db=.some (.cells 28 true [.int .i64 a.k,.str a.s,.int .i64 a.v.k,.bool a.v.b,.int .i64 a.v.n,.str a.v.s,.aF,.aF,ka,na])→φ (BU s,st1)):T φ (gA R d1 da db s true st):=by
 have xa1:=xa.one
 have xb1:=xb.one
 obtain⟨oa1,oa2⟩:=xa1
 obtain⟨ob1,ob2⟩:=xb1
 unfold gA
 refine T.fA rfl ?_
 refine T.step (IS (mZ _ _) (by kernel_rfl)) ?_
 refine T.step (IS (i7 _ _ _) (by kernel_rfl)) ?_
 refine T.step (IS (i7 _ _ _) (by kernel_rfl)) ?_
 refine T.step (IS (i7 _ _ _) (by kernel_rfl)) ?_
 refine T.step (IS (i7 _ _ _) (by kernel_rfl)) ?_
 generalize hst5:St.put _ _ _=st5
 have gm:st5.aS.get st.next=.some (.map QV 5):=by rw[← hst5]; exact i7 _ _ _
 have k5:KP da db st st5:=by
  rw[← hst5]
  exact((((KP.push.loc (.inr (.inr (Nat.le_refl _)))).loc (.inr (.inr (Nat.le_refl _)))).loc (.inr (.inr (Nat.le_refl _)))).loc (.inr (.inr (Nat.le_refl _)))).loc (.inr (.inr (Nat.le_refl _)))
 have ga5:st5.aS.get da=.some (.cells 28 true [.int .i64 a.k,.str a.s,.int .i64 a.v.k,.bool a.v.b,.int .i64 a.v.n,.str a.v.s,.aF,.aF,ka,na]):=by
  rw[← hst5]
  simp(disch:=(first | ((repeat(first | rw[aB] | rw[aE] | rw[List.length_cons] | rw[List.length_nil])) <;> omega) | (refine(?_:_∧True).1; constructor; simp only[aL, *]; exact True.intro))) only[cD,ga]
 have gb5:st5.aS.get db=.some (.cells 28 true [.int .i64 b.k,.str b.s,.int .i64 b.v.k,.bool b.v.b,.int .i64 b.v.n,.str b.v.s,.aF,.aF,kb,nb]):=by
  rw[← hst5]
  simp(disch:=(first | ((repeat(first | rw[aB] | rw[aE] | rw[List.length_cons] | rw[List.length_nil])) <;> omega) | (refine(?_:_∧True).1; constructor; simp only[aL, *]; exact True.intro))) only[cD,gb]
 have hn5:=k5.1
 clear hst5
 repeat(refine T.step (by simp(disch:=(first | ((repeat(first | rw[aB] | rw[aE] | rw[List.length_cons] | rw[List.length_nil])) <;> omega) | (refine(?_:_∧True).1; constructor; simp only[aL, *]; exact True.intro))) only[aX,ga5,gb5]; try exact rfl) ?_)
 refine T.step (Jd gm s) ?_
 repeat(refine T.step (by simp(disch:=(first | ((repeat(first | rw[aB] | rw[aE] | rw[List.length_cons] | rw[List.length_nil])) <;> omega) | (refine(?_:_∧True).1; constructor; simp only[aL, *]; exact True.intro))) only[aX,ga5,gb5]; try exact rfl) ?_)
 refine T.step (Jd (by simp(disch:=(first | ((repeat(first | rw[aB] | rw[aE] | rw[List.length_cons] | rw[List.length_nil])) <;> omega) | (refine(?_:_∧True).1; constructor; simp only[aL, *]; exact True.intro))) only[cD,gm]) s) ?_
 refine T.fA (tL _) ?_
 repeat(refine T.step (by simp(disch:=(first | ((repeat(first | rw[aB] | rw[aE] | rw[List.length_cons] | rw[List.length_nil])) <;> omega) | (refine(?_:_∧True).1; constructor; simp only[aL, *]; exact True.intro))) only[aX,ga5,gb5]; try exact rfl) ?_)
 refine T.step (Jd (by simp(disch:=(first | ((repeat(first | rw[aB] | rw[aE] | rw[List.length_cons] | rw[List.length_nil])) <;> omega) | (refine(?_:_∧True).1; constructor; simp only[aL, *]; exact True.intro))) only[cD,gm]) s) ?_
 refine T.fA (tL _) ?_
 exact T.some (h _ ((k5.loc (.inl rfl)).loc (.inr (.inl rfl))) (by simp(disch:=(first | ((repeat(first | rw[aB] | rw[aE] | rw[List.length_cons] | rw[List.length_nil])) <;> omega) | (refine(?_:_∧True).1; constructor; simp only[aL, *]; exact True.intro))) only[cD]) (by simp(disch:=(first | ((repeat(first | rw[aB] | rw[aE] | rw[List.length_cons] | rw[List.length_nil])) <;> omega) | (refine(?_:_∧True).1; constructor; simp only[aL, *]; exact True.intro))) only[cD]))
theorem Gz {R d1 d2 d3 : Nat} {s : List UInt8} {st : St} {a : Ex} {ka na : AV} {φ : (List UInt8 × List UInt8 × Bool × St) ⊕ St → Prop} (ha : a.s.length ≤ 10000000)
 (g1:st.aS.get d1=.some (.cells 25 true [.int .i64 0,.bool false,.int .i64 0,.str [],.aF,.aF])) (g2:st.aS.get d2=.some (.cells 28 true [.int .i64 a.k,.str a.s,.int .i64 a.v.k,.bool a.v.b,.int .i64 a.v.n,.str a.v.s,.aF,.aF,ka,na]))
 (hin:46 ∈ a.s→φ (.inl ([],[],false,st.put d1 (.cells 25 true [.int .i64 0,.bool false,.int .i64 0,.str [],.aF,.aF])))) (hout:46 ∉ a.s→φ (.inr st)):
 ∀(r i:Nat),i≤a.s.length→a.s.length - i<r→(∀ k:Nat,k<i→a.s[k]? ≠.some 46)→T φ (eF R d1 d2 d3 s r (i:Int) st)
 | 0,_,_,hr,_=>absurd hr (Nat.not_lt_zero _)
 | r + 1, i, hi, hr, hb => by
   unfold eF
   repeat(refine T.step (by simp(disch:=(first | ((repeat(first | rw[aB] | rw[aE] | rw[List.length_cons] | rw[List.length_nil])) <;> omega) | (refine(?_:_∧True).1; constructor; simp only[aL, *]; exact True.intro))) only[aX,g2]; try exact rfl) ?_)
   by_cases hlt:i<a.s.length
   ·refine T.fA (by omega) ?_
    refine T.step (tG hlt) ?_
    by_cases hd:a.s[i]=46
    ·refine T.fA (by rw[hd]; rfl) ?_
     repeat(refine T.step (by simp(disch:=(first | ((repeat(first | rw[aB] | rw[aE] | rw[List.length_cons] | rw[List.length_nil])) <;> omega) | (refine(?_:_∧True).1; constructor; simp only[aL, *]; exact True.intro))) only[aX,g1]; try exact rfl) ?_)
     exact T.some (hin (by rw[← hd]; exact List.getElem_mem hlt))
    ·refine T.gY (fun e=>hd (by apply UInt8.toNat_inj.1; show a.s[i].toNat=46; omega)) ?_
     have e1:IntKind.wrap .i64 ((i:Int)+1)=((i+1:Nat):Int):=by rw[wrap64 (by omega) (by omega)]; omega
     rw[e1]
     refine Gz ha g1 g2 hin hout r (i+1) hlt (by omega) fun k hk=>?_
     by_cases he:k=i
     ·subst he
      rw[List.getElem?_eq_getElem hlt]
      exact fun h=>hd (Option.some.inj h)
     ·exact hb k (by omega)
   ·refine T.gY (by omega) ?_
    refine T.some (hout fun hm=>?_)
    obtain⟨k,hk,e⟩:=List.getElem_of_mem hm
    exact hb k (by omega) (by rw[List.getElem?_eq_getElem hk,e])
def Dk (s:List UInt8):Prop:=s=[61]∨s=[60]∨s=[60,61]∨s=[62]∨s=[62,61]
open Classical in
def yA (a:Ex)(s:List UInt8)(b:Ex):List UInt8×List UInt8×Vl×Bool:=if 46 ∈ a.s then Kp else if a.k=2∧b.k=1∧Dk s then(a.s,s,b.v,true) else(a.s,s,b.v,false)
theorem JJ {R d2 d3 : Nat} {sg : List UInt8} {st : St} {a b : Ex} {ka na kb nb : AV} {φ : Bool × St → Prop}
 (g2:st.aS.get d2=.some (.cells 28 true [.int .i64 a.k,.str a.s,.int .i64 a.v.k,.bool a.v.b,.int .i64 a.v.n,.str a.v.s,.aF,.aF,ka,na])) (g3:st.aS.get d3=.some (.cells 28 true [.int .i64 b.k,.str b.s,.int .i64 b.v.k,.bool b.v.b,.int .i64 b.v.n,.str b.v.s,.aF,.aF,kb,nb]))
 (ht:a.k=2∧b.k=1∧Dk sg→φ (true,st)) (hf:¬ (a.k=2∧b.k=1∧Dk sg)→φ (false,st)):T φ (fR R d2 d3 sg st):=by
 unfold fR
 repeat(refine T.step (by simp(disch:=(first | ((repeat(first | rw[aB] | rw[aE] | rw[List.length_cons] | rw[List.length_nil])) <;> omega) | (refine(?_:_∧True).1; constructor; simp only[aL, *]; exact True.intro))) only[aX,g2]; try exact rfl) ?_)
 by_cases c1:a.k=2
 ·refine T.fA c1 ?_
  repeat(refine T.step (by simp(disch:=(first | ((repeat(first | rw[aB] | rw[aE] | rw[List.length_cons] | rw[List.length_nil])) <;> omega) | (refine(?_:_∧True).1; constructor; simp only[aL, *]; exact True.intro))) only[aX,g3]; try exact rfl) ?_)
  by_cases c2:b.k=1
  ·refine T.fA c2 ?_
   by_cases c3:sg=[61]
   ·refine T.fA c3 ?_
    exact T.some (ht ⟨c1,c2,.inl c3⟩)
   ·refine T.gY c3 ?_
    by_cases c4:sg=[60]
    ·refine T.fA c4 ?_
     exact T.some (ht ⟨c1,c2,.inr (.inl c4)⟩)
    ·refine T.gY c4 ?_
     by_cases c5:sg=[60,61]
     ·refine T.fA c5 ?_
      exact T.some (ht ⟨c1,c2,.inr (.inr (.inl c5))⟩)
     ·refine T.gY c5 ?_
      by_cases c6:sg=[62]
      ·refine T.fA c6 ?_
       exact T.some (ht ⟨c1,c2,.inr (.inr (.inr (.inl c6)))⟩)
      ·refine T.gY c6 ?_
       by_cases c7:sg=[62,61]
       ·refine T.fA c7 ?_
        exact T.some (ht ⟨c1,c2,.inr (.inr (.inr (.inr c7)))⟩)
       ·refine T.gY c7 ?_
        refine T.some (hf fun h=>?_)
        rcases h.2.2 with h | h | h | h | h <;> exact absurd h (by assumption)
  ·refine T.gY c2 ?_
   exact T.some (hf fun h=>c2 h.2.1)
 ·refine T.gY c1 ?_
  exact T.some (hf fun h=>c1 h.1)
open Classical in
def lV (e:Ex):List UInt8×List UInt8×Vl×Bool:=match two e with
 | .some (a,b)=>if a.k=1∧b.k=2 then yA b (BU e.s) a else yA a e.s b
 | none=>Kp
theorem PZ {e a b:Ex}(hk:e.kids=[a,b])(hw:e.wt≤10000000):a.s.length≤10000000∧b.s.length≤10000000:=by
 cases e with
 | mk k s v kids names =>
   have:kids=[a,b]:=hk
   subst this
   simp only[Ex.wt,Lh] at hw
   cases a; cases b
   simp only[Ex.wt] at hw
   simp only[Ex.s]
   omega
theorem Ok {R : Nat} (hR : 100000000 < R) {e : Ex} {kv nv : AV} (hx : RX e kv nv) (hw : e.wt ≤ 10000000) {st : St} {φ : List UInt8 × List UInt8 × Int × Bool × Int × List UInt8 × AV × AV × Bool × St → Prop} (h : Qm (lV e) st φ) : T φ (kU R e.k e.s e.v.k e.v.b e.v.n e.v.s .aF .aF kv nv st) := by
 have hx1:=hx.one
 obtain⟨ok1,ok2⟩:=hx1
 obtain⟨kcs,a1,a2,a3⟩:=hx.inv
 unfold kU
 refine T.step (Ku hx) ?_
 unfold jW
 refine T.bind ?_
 repeat(refine T.step (by simp(disch:=(first | ((repeat(first | rw[aB] | rw[aE] | rw[List.length_cons] | rw[List.length_nil])) <;> omega) | (refine(?_:_∧True).1; constructor; simp only[aL, *]; exact True.intro))) only[aX]; try exact rfl) ?_)
 by_cases h6:e.k=6
 ·refine T.fA h6 ?_
  repeat(refine T.step (by simp(disch:=(first | ((repeat(first | rw[aB] | rw[aE] | rw[List.length_cons] | rw[List.length_nil])) <;> omega) | (refine(?_:_∧True).1; constructor; simp only[aL, *]; exact True.intro))) only[aX]; try exact rfl) ?_)
  refine T.step (KW a1 a3) ?_
  by_cases hl:e.kids.length=2
  ·refine T.fA (by omega) ?_
   refine T.some ?_
   refine T.gY (by decide) ?_
   obtain⟨a,b,hk,h2⟩:=ED h6 hl
   have hwl:a.s.length≤10000000∧b.s.length≤10000000:=PZ hk hw
   rw[hk] at a3
   unfold lV at h
   rw[h2] at h
   obtain⟨ka,na,la,xa⟩:∃ kv nv,(∀ st:St,loadAt C0.P st 28 (.pM (kcs.drop (0 * 10)))=.some (.agg (uK a kv nv)))∧RX a kv nv:=tJ a3 (show 0<[a,b].length from Nat.succ_pos _)
   obtain⟨kb,nb,lb,xb⟩:∃ kv nv,(∀ st:St,loadAt C0.P st 28 (.pM (kcs.drop (1 * 10)))=.some (.agg (uK b kv nv)))∧RX b kv nv:=tJ a3 (show 1<[a,b].length from Nat.lt_succ_self _)
   have xa1:=xa.one
   have xb1:=xb.one
   obtain⟨oa1,oa2⟩:=xa1
   obtain⟨ob1,ob2⟩:=xb1
   repeat(refine T.step (by simp(disch:=(first | ((repeat(first | rw[aB] | rw[aE] | rw[List.length_cons] | rw[List.length_nil])) <;> omega) | (refine(?_:_∧True).1; constructor; simp only[aL, *]; exact True.intro))) only[aX]; try exact rfl) ?_)
   refine T.step (mM (sz:=10) (i:=0) a1 (by rw[a3.1]; simp only[List.length_cons,List.length_nil]; omega)) ?_
   refine T.step (la _) ?_
   refine T.step Fi ?_
   refine T.step (mM (sz:=10) (i:=1) a1 (by rw[a3.1]; simp only[List.length_cons,List.length_nil]; omega)) ?_
   refine T.step (lb _) ?_
   refine T.step Fi ?_
   repeat(refine T.step (by simp(disch:=(first | ((repeat(first | rw[aB] | rw[aE] | rw[List.length_cons] | rw[List.length_nil])) <;> omega) | (refine(?_:_∧True).1; constructor; simp only[aL, *]; exact True.intro))) only[aX]; try exact rfl) ?_)
   refine T.fA (tL _) ?_
   refine T.step (lb _) ?_
   refine T.fA (LX xb) ?_
   repeat(refine T.step (by simp(disch:=(first | ((repeat(first | rw[aB] | rw[aE] | rw[List.length_cons] | rw[List.length_nil])) <;> omega) | (refine(?_:_∧True).1; constructor; simp only[aL, *]; exact True.intro))) only[aX]; try exact rfl) ?_)
   refine T.fA (Ca a1 a3) ?_
   repeat(refine T.step (by simp(disch:=(first | ((repeat(first | rw[aB] | rw[aE] | rw[List.length_cons] | rw[List.length_nil])) <;> omega) | (refine(?_:_∧True).1; constructor; simp only[aL, *]; exact True.intro))) only[aX]; try exact rfl) ?_)
   refine T.fA (tL _) ?_
   unfold iV
   refine T.bind ?_
   repeat(refine T.step (by simp(disch:=(first | ((repeat(first | rw[aB] | rw[aE] | rw[List.length_cons] | rw[List.length_nil])) <;> omega) | (refine(?_:_∧True).1; constructor; simp only[aL, *]; exact True.intro))) only[aX]; try exact rfl) ?_)
   dsimp only at h
   by_cases c1:a.k=1
   ·refine T.fA c1 ?_
    repeat(refine T.step (by simp(disch:=(first | ((repeat(first | rw[aB] | rw[aE] | rw[List.length_cons] | rw[List.length_nil])) <;> omega) | (refine(?_:_∧True).1; constructor; simp only[aL, *]; exact True.intro))) only[aX]; try exact rfl) ?_)
    by_cases c2:b.k=2
    ·rw[if_pos ⟨c1,c2⟩] at h
     refine T.fA c2 ?_
     refine T.some ?_
     refine T.bind (PX xa xb (by(try simp only[aB,aE]); omega) (by(try simp only[aB,aE]); omega) (by(try simp only[aB,aE]); omega) (by simp(disch:=(first | ((repeat(first | rw[aB] | rw[aE] | rw[List.length_cons] | rw[List.length_nil])) <;> omega) | (refine(?_:_∧True).1; constructor; simp only[aL, *]; exact True.intro))) only[cD]) (by simp(disch:=(first | ((repeat(first | rw[aB] | rw[aE] | rw[List.length_cons] | rw[List.length_nil])) <;> omega) | (refine(?_:_∧True).1; constructor; simp only[aL, *]; exact True.intro))) only[cD]) fun st1 k1 e1 e2=>?_)
     have n_k1:=k1.le; (try simp only[aB,aE] at n_k1)
     have K1:KN st st1:=⟨by omega,fun i hi=>by(rw[k1.2.1 i (by(try simp only[aB,aE]); omega) (by(try simp only[aB,aE]); omega) (by(try simp only[aB,aE]); omega)]; simp(disch:=(first | ((repeat(first | rw[aB] | rw[aE] | rw[List.length_cons] | rw[List.length_nil])) <;> omega) | (refine(?_:_∧True).1; constructor; simp only[aL, *]; exact True.intro))) only[cD]),k1.2.2⟩
     (try simp only[aB,aE] at e1 e2)
     have e0:st1.aS.get (st.next+1)=.some (.cells 25 true [.int .i64 0,.bool false,.int .i64 0,.str [],.aF,.aF]):=by simp(disch:=(first | ((repeat(first | rw[aB] | rw[aE] | rw[List.length_cons] | rw[List.length_nil])) <;> omega) | (refine(?_:_∧True).1; constructor; simp only[aL, *]; exact True.intro))) only[cD,k1.2.1]
     refine T.bind (Gz hwl.2 e0 e1 (fun hm=>?_) (fun hm=>?_) R 0 (Nat.zero_le _) (by omega) (fun k hk=>absurd hk (Nat.not_lt_zero _)))
     ·unfold yA at h
      rw[if_pos hm] at h
      repeat(refine T.step (by simp(disch:=(first | ((repeat(first | rw[aB] | rw[aE] | rw[List.length_cons] | rw[List.length_nil])) <;> omega) | (refine(?_:_∧True).1; constructor; simp only[aL, *]; exact True.intro))) only[aX]; try exact rfl) ?_)
      exact T.some (h _ (by repeat' (first | exact K1 | exact KN.refl | refine KN.dX ?_ | refine KN.loc ?_ ?_ | ((try simp only[aB,aE]) <;> omega))))
     ·unfold yA at h
      rw[if_neg hm] at h
      refine T.bind (JJ e1 e2 (fun hc=>?_) (fun hc=>?_))
      ·rw[if_pos hc] at h
       repeat(refine T.step (by simp(disch:=(first | ((repeat(first | rw[aB] | rw[aE] | rw[List.length_cons] | rw[List.length_nil])) <;> omega) | (refine(?_:_∧True).1; constructor; simp only[aL, *]; exact True.intro))) only[aX,AZ,e0,e1,e2]; try exact rfl) ?_)
       exact T.some (h _ (by repeat' (first | exact K1 | exact KN.refl | refine KN.dX ?_ | refine KN.loc ?_ ?_ | ((try simp only[aB,aE]) <;> omega))))
      ·rw[if_neg hc] at h
       repeat(refine T.step (by simp(disch:=(first | ((repeat(first | rw[aB] | rw[aE] | rw[List.length_cons] | rw[List.length_nil])) <;> omega) | (refine(?_:_∧True).1; constructor; simp only[aL, *]; exact True.intro))) only[aX,AZ,e0,e1,e2]; try exact rfl) ?_)
       exact T.some (h _ (by repeat' (first | exact K1 | exact KN.refl | refine KN.dX ?_ | refine KN.loc ?_ ?_ | ((try simp only[aB,aE]) <;> omega))))
    ·rw[if_neg (fun h=>c2 h.2)] at h
     refine T.gY c2 ?_
     refine T.some ?_
     refine T.step (if_neg (by decide)) ?_
     refine T.bind (Gz (a:=a) (ka:=ka) (na:=na) hwl.1 (by simp(disch:=(first | ((repeat(first | rw[aB] | rw[aE] | rw[List.length_cons] | rw[List.length_nil])) <;> omega) | (refine(?_:_∧True).1; constructor; simp only[aL, *]; exact True.intro))) only[cD]) (by simp(disch:=(first | ((repeat(first | rw[aB] | rw[aE] | rw[List.length_cons] | rw[List.length_nil])) <;> omega) | (refine(?_:_∧True).1; constructor; simp only[aL, *]; exact True.intro))) only[cD]) (fun hm=>?_) (fun hm=>?_) R 0 (Nat.zero_le _) (by omega) (fun k hk=>absurd hk (Nat.not_lt_zero _)))
     ·unfold yA at h
      rw[if_pos hm] at h
      repeat(refine T.step (by simp(disch:=(first | ((repeat(first | rw[aB] | rw[aE] | rw[List.length_cons] | rw[List.length_nil])) <;> omega) | (refine(?_:_∧True).1; constructor; simp only[aL, *]; exact True.intro))) only[aX]; try exact rfl) ?_)
      exact T.some (h _ (by repeat' (first | exact KN.refl | exact KN.refl | refine KN.dX ?_ | refine KN.loc ?_ ?_ | ((try simp only[aB,aE]) <;> omega))))
     ·unfold yA at h
      rw[if_neg hm] at h
      refine T.bind (JJ (a:=a) (ka:=ka) (na:=na) (b:=b) (kb:=kb) (nb:=nb) (by simp(disch:=(first | ((repeat(first | rw[aB] | rw[aE] | rw[List.length_cons] | rw[List.length_nil])) <;> omega) | (refine(?_:_∧True).1; constructor; simp only[aL, *]; exact True.intro))) only[cD]) (by simp(disch:=(first | ((repeat(first | rw[aB] | rw[aE] | rw[List.length_cons] | rw[List.length_nil])) <;> omega) | (refine(?_:_∧True).1; constructor; simp only[aL, *]; exact True.intro))) only[cD]) (fun hc=>?_) (fun hc=>?_))
      ·exact absurd hc.1 (by rw[c1]; decide)
      ·rw[if_neg hc] at h
       repeat(refine T.step (by simp(disch:=(first | ((repeat(first | rw[aB] | rw[aE] | rw[List.length_cons] | rw[List.length_nil])) <;> omega) | (refine(?_:_∧True).1; constructor; simp only[aL, *]; exact True.intro))) only[aX,AZ]; try exact rfl) ?_)
       exact T.some (h _ (by repeat' (first | exact KN.refl | exact KN.refl | refine KN.dX ?_ | refine KN.loc ?_ ?_ | ((try simp only[aB,aE]) <;> omega))))
   ·rw[if_neg (fun h=>c1 h.1)] at h
    refine T.gY c1 ?_
    refine T.some ?_
    refine T.step (if_neg (by decide)) ?_
    refine T.bind (Gz (a:=a) (ka:=ka) (na:=na) hwl.1 (by simp(disch:=(first | ((repeat(first | rw[aB] | rw[aE] | rw[List.length_cons] | rw[List.length_nil])) <;> omega) | (refine(?_:_∧True).1; constructor; simp only[aL, *]; exact True.intro))) only[cD]) (by simp(disch:=(first | ((repeat(first | rw[aB] | rw[aE] | rw[List.length_cons] | rw[List.length_nil])) <;> omega) | (refine(?_:_∧True).1; constructor; simp only[aL, *]; exact True.intro))) only[cD]) (fun hm=>?_) (fun hm=>?_) R 0 (Nat.zero_le _) (by omega) (fun k hk=>absurd hk (Nat.not_lt_zero _)))
    ·unfold yA at h
     rw[if_pos hm] at h
     repeat(refine T.step (by simp(disch:=(first | ((repeat(first | rw[aB] | rw[aE] | rw[List.length_cons] | rw[List.length_nil])) <;> omega) | (refine(?_:_∧True).1; constructor; simp only[aL, *]; exact True.intro))) only[aX]; try exact rfl) ?_)
     exact T.some (h _ (by repeat' (first | exact KN.refl | exact KN.refl | refine KN.dX ?_ | refine KN.loc ?_ ?_ | ((try simp only[aB,aE]) <;> omega))))
    ·unfold yA at h
     rw[if_neg hm] at h
     refine T.bind (JJ (a:=a) (ka:=ka) (na:=na) (b:=b) (kb:=kb) (nb:=nb) (by simp(disch:=(first | ((repeat(first | rw[aB] | rw[aE] | rw[List.length_cons] | rw[List.length_nil])) <;> omega) | (refine(?_:_∧True).1; constructor; simp only[aL, *]; exact True.intro))) only[cD]) (by simp(disch:=(first | ((repeat(first | rw[aB] | rw[aE] | rw[List.length_cons] | rw[List.length_nil])) <;> omega) | (refine(?_:_∧True).1; constructor; simp only[aL, *]; exact True.intro))) only[cD]) (fun hc=>?_) (fun hc=>?_))
     ·rw[if_pos hc] at h
      repeat(refine T.step (by simp(disch:=(first | ((repeat(first | rw[aB] | rw[aE] | rw[List.length_cons] | rw[List.length_nil])) <;> omega) | (refine(?_:_∧True).1; constructor; simp only[aL, *]; exact True.intro))) only[aX,AZ]; try exact rfl) ?_)
      exact T.some (h _ (by repeat' (first | exact KN.refl | exact KN.refl | refine KN.dX ?_ | refine KN.loc ?_ ?_ | ((try simp only[aB,aE]) <;> omega))))
     ·rw[if_neg hc] at h
      repeat(refine T.step (by simp(disch:=(first | ((repeat(first | rw[aB] | rw[aE] | rw[List.length_cons] | rw[List.length_nil])) <;> omega) | (refine(?_:_∧True).1; constructor; simp only[aL, *]; exact True.intro))) only[aX,AZ]; try exact rfl) ?_)
      exact T.some (h _ (by repeat' (first | exact KN.refl | exact KN.refl | refine KN.dX ?_ | refine KN.loc ?_ ?_ | ((try simp only[aB,aE]) <;> omega))))
  ·refine T.gY (by omega) ?_
   refine T.some ?_
   refine T.fA rfl ?_
   unfold lV at h
   rw[tS (.inr hl)] at h
   repeat(refine T.step (by simp(disch:=(first | ((repeat(first | rw[aB] | rw[aE] | rw[List.length_cons] | rw[List.length_nil])) <;> omega) | (refine(?_:_∧True).1; constructor; simp only[aL, *]; exact True.intro))) only[aX]; try exact rfl) ?_)
   exact T.some (h _ (by repeat' (first | exact KN.refl | exact KN.refl | refine KN.dX ?_ | refine KN.loc ?_ ?_ | ((try simp only[aB,aE]) <;> omega))))
 ·refine T.gY h6 ?_
  refine T.some ?_
  refine T.fA rfl ?_
  unfold lV at h
  rw[tS (.inl h6)] at h
  repeat(refine T.step (by simp(disch:=(first | ((repeat(first | rw[aB] | rw[aE] | rw[List.length_cons] | rw[List.length_nil])) <;> omega) | (refine(?_:_∧True).1; constructor; simp only[aL, *]; exact True.intro))) only[aX]; try exact rfl) ?_)
  exact T.some (h _ (by repeat' (first | exact KN.refl | exact KN.refl | refine KN.dX ?_ | refine KN.loc ?_ ?_ | ((try simp only[aB,aE]) <;> omega))))
end
end Go.Proofs.YthodfojhbbendaaGreatDoor
end
section
set_option linter.all false
set_option maxRecDepth 100000
set_option maxHeartbeats 4000000
namespace Go.Proofs.YthodfojhbbendaaGreatDoor
open Go Go.Ev
noncomputable section
attribute [local congr] n7 sW
theorem Kc {P : Program} {t : TypeId} {sz : Nat} [T : xO P t sz] {st : St} {x y : AV} {cells new : List AV} (h : Sl st sz x cells) (hy : Row sz y new) (h1 : new.all AV.one = true) (hn : cells.length ≤ iL) (hm : new.length ≤ iL) :
 ∃ x' st',cX P false st #[t,t] x y=some (x',st')∧Sl st' sz x' (cells ++ new)∧mV st st' (eL x)∧(∀ id,eL x' id→eL x id∨st.next≤id)∧st'.old=st.old:=by
 obtain⟨e,bs,z,t1,t2,t3,t4,t5,t6,t7,t8⟩:=T.ok
 have q1:Nat.beq t t=true:=Nat.beq_refl t
 obtain⟨n,hl,ya,yb⟩:∃ n,new.length=n * sz∧lenOf y=some n∧eD st n y sz=some new:=by
  rcases hy with⟨rfl,rfl⟩ | ⟨j,e',len,c',rfl,hl⟩
  ·exact⟨0,by simp,rfl,rfl⟩
  ·refine⟨len,hl,rfl,?_⟩
   have q2:(Nat.ble len len && Nat.beq sz sz)=true:=by rw[Nat.beq_refl,Nat.ble_eq_true_of_le (Nat.le_refl _)]; rfl
   show cond _ _ _=_
   rw[eW q2]
   unfold range?
   rw[eW (Nat.ble_eq_true_of_le (by omega)),List.drop_zero,List.take_of_length_le (by omega)]
 have c1:Nat.beq sz 0=false:=by cases sz with
  | zero=>exact absurd t6 (Nat.lt_irrefl 0)
  | succ n=>rfl
 have hnm:n≤iL:=by
  have:n * 1≤n * sz:=Nat.mul_le_mul_left _ t6
  omega
 have c2:Nat.ble n iL=true:=Nat.ble_eq_true_of_le hnm
 have c3:Nat.ble bs 4096=true:=Nat.ble_eq_true_of_le t5
 have c4:Nat.beq z.cells.length sz=true:=by rw[t7]; exact Nat.beq_refl sz
 have c5:(!(new.all AV.one && Nat.ble n iL && Nat.ble bs 4096 && !Nat.beq sz 0 && Nat.beq z.cells.length sz))=false:=by rw[h1,c1,c2,c3,c4]; rfl
 have ad:A4 y=some n:=by
  rcases hy with⟨rfl,rfl⟩ | ⟨j,e',len,c',rfl,hl⟩ <;> exact ya
 have ap:qH P st t t n sz y=some new:=by
  rcases hy with⟨rfl,rfl⟩ | ⟨j,e',len,c',rfl,hl2⟩ <;> (simp only[qH,eW q1]; exact yb)
 have base:∀(q:AV),(q=.aF∨ ∃ id e len cap cs,q=.sl id e len sz cap cs)→cX P false st #[t,t] q y=(match q with
  | .aF=>cond (Nat.beq n 0) (some (.aF,st)) (some (st.Ih (eS false e n sz none new)))
  | .sl id e len sz' cap cs =>
    cond (Nat.beq n 0) (some (q,st))<|cond (!(Nat.ble len iL && Nat.beq sz sz')) none<|
    cond (cap.any fun c=>Nat.blt c (len+n)) (some (st.Ih (eS false e (len+n) sz none (cs ++ new))))<|
    match st.aS.get id with
    | some (.nE h)=>cond (Nat.beq h e && !false) (some (.sl id (e+new.length) (len+n) sz cap (cs ++ new),st.put id (.nE (e+new.length)))) none
    | _=>none
  | q=>none):=by
  intro q hq
  rcases hq with rfl | ⟨id,e0,len,cap,cs,rfl⟩ <;> (simp only[cX,t1,t2,t3,t4,Option.bind_some,ad,ap,tR c5]; try rfl)
 by_cases h0:n=0
 ·subst h0
  have e0:new=[]:=List.eq_nil_of_length_eq_zero (by omega)
  subst e0
  refine⟨x,st,?_,by rw[List.append_nil]; exact h,mV.refl st _,fun id hi=>.inl hi,rfl⟩
  rcases h with⟨rfl,rfl⟩ | ⟨id,e0,len,cap,rfl,h2,h3,h4⟩
  ·rw[base _ (.inl rfl)]; rfl
  ·rw[base _ (.inr ⟨_,_,_,_,_,rfl⟩)]; rfl
 have b0:Nat.beq n 0=false:=by cases n with
  | zero=>exact absurd rfl h0
  | succ n=>rfl
 rcases h with⟨rfl,rfl⟩ | ⟨id,e0,len,cap,rfl,h2,h3,h4⟩
 ·refine⟨.sl st.next new.length n sz none new,st.push (.nE new.length),?_,.inr ⟨_,_,_,_,rfl,by rw[List.nil_append,hl],Nat.lt_succ_self _,.inr ⟨rfl,by simp[St.push,Tr.bP]⟩⟩,mV.push st _ _,fun id hi=>.inr (by rw[show id=st.next from hi]; exact Nat.le_refl _),rfl⟩
  rw[base _ (.inl rfl)]
  simp only[b0,cond_false]
  rfl
 ·have hlen:len≤iL:=by
   have:len * 1≤len * sz:=Nat.mul_le_mul_left _ t6
   omega
  have d1:(!(Nat.ble len iL && Nat.beq sz sz))=false:=by rw[Nat.ble_eq_true_of_le hlen,Nat.beq_refl]; rfl
  rcases h4 with rfl | ⟨rfl,h4⟩
  ·have d2:Option.any (fun c=>Nat.blt c (len+n)) (some len)=true:=by
    show Nat.ble (len+1) (len+n)=true
    exact Nat.ble_eq_true_of_le (by omega)
   refine⟨.sl st.next (cells ++ new).length (len+n) sz none (cells ++ new),st.push (.nE (cells ++ new).length),?_,.inr ⟨_,_,_,_,rfl,by rw[List.length_append,h2,hl,Nat.add_mul],Nat.lt_succ_self _,.inr ⟨rfl,by simp[St.push,Tr.bP]⟩⟩,mV.push st _ _,fun id hi=>.inr (by rw[show id=st.next from hi]; exact Nat.le_refl _),rfl⟩
   rw[base _ (.inr ⟨_,_,_,_,_,rfl⟩)]
   simp only[b0,cond_false,tR d1,eW d2]
   rfl
  ·have d3:(Nat.beq e0 e0 && !false)=true:=by rw[Nat.beq_refl]; rfl
   refine⟨.sl id (e0+new.length) (len+n) sz none (cells ++ new),st.put id (.nE (e0+new.length)),?_,.inr ⟨_,_,_,_,rfl,by rw[List.length_append,h2,hl,Nat.add_mul],h3,.inr ⟨rfl,by simp[St.put,Tr.bP]⟩⟩,⟨Nat.le_refl _,fun i hi hn=>?_⟩,fun i hi=>.inl hi,rfl⟩
   ·rw[base _ (.inr ⟨_,_,_,_,_,rfl⟩)]
    simp only[b0,cond_false,tR d1,Option.any_none,h4,eW d3]
   ·simp only[St.put,Tr.bP]
    exact if_neg fun e:i=id=>hn e
theorem AQ.append {l m:List Ex}{a b:List AV}(h:AQ l a)(k:AQ m b):AQ (l ++ m) (a ++ b):=by
 refine⟨by rw[List.length_append,List.length_append,h.1,k.1,Nat.add_mul],fun j hj=>?_⟩
 rw[List.length_append] at hj
 by_cases h1:j<l.length
 ·rw[List.getElem_append_left h1,List.drop_append_of_le_length (by rw[h.1]; omega),List.take_append_of_le_length (by rw[List.length_drop,h.1]; omega)]
  exact h.2 j h1
 ·have e1:j * 10=a.length+(j - l.length) * 10:=by rw[h.1]; omega
  rw[List.getElem_append_right (by omega),e1,List.drop_append,List.drop_eq_nil_of_le (by omega),List.nil_append,Nat.add_sub_cancel_left]
  exact k.2 (j - l.length) (by omega)
theorem AQ.one {e:Ex}{kv nv:AV}(h:RX e kv nv):AQ [e] (uK e kv nv):=AQ.nil.snoc h rfl
def n9:Nat→Ex→List Ex
 | 0,_=>[]
 | k + 1, e => if e.k = 0 then [] else if e.s = [65, 78, 68] then (match two e with
  | .some (a,b)=>n9 k a ++ n9 k b
  | none=>[e]) else [e]
theorem D9 {e a b : Ex} (h : two e = .some (a, b)) : e.kids = [a, b] ∧ e.k = 6 ∧ a.dp + 1 ≤ e.dp ∧ b.dp + 1 ≤ e.dp ∧ a.wt + b.wt + 100 ≤ e.wt := by
 unfold two at h
 split at h
 ·rename_i h6
  split at h
  ·rename_i a' b' hk
   injection h with h
   injection h with e1 e2
   subst e1; subst e2
   refine⟨hk,h6,?_⟩
   cases e with
   | mk k s v kids names =>
     have:kids=[a',b']:=hk
     subst this
     simp only[Ex.wt,Lh,Ex.dp,NH]
     omega
  ·cases h
 ·cases h
theorem uB : ∀ (k : Nat) (e : Ex), (n9 k e).length ≤ e.wt
 | 0,_=>Nat.zero_le _
 | k + 1, e => by
   have:=Oj e
   unfold n9
   split
   ·exact Nat.zero_le _
   ·split
    ·split
     ·rename_i a b h2
      have:=D9 h2
      have ha:=uB k a
      have hb:=uB k b
      rw[List.length_append]
      omega
     ·simp only[List.length_cons,List.length_nil]; omega
    ·simp only[List.length_cons,List.length_nil]; omega
def Pq (l:List Ex)(st st1:St)(x:AV):Prop:=∃ cells,Sl st1 10 x cells∧AQ l cells∧cells.all AV.one=true∧KN st st1∧ ∀ id,eL x id→st.next≤id
def OH (f:Int→List UInt8→Int→Bool→Int→List UInt8→AV→AV→AV→AV→St→Option (AV×St))(k:Nat):Prop:=∀(e:Ex) (kv nv:AV) (st:St) (φ:AV×St→Prop),RX e kv nv→e.dp≤k→e.wt≤10000000→(∀ st1 x,Pq (n9 k e) st st1 x→φ (x,st1))→T φ (f e.k e.s e.v.k e.v.b e.v.n e.v.s .aF .aF kv nv st)
theorem BF {e:Ex}{kv nv:AV}(hx:RX e kv nv){st0 st:St}(k0:KN st0 st){f:Bool}(hf:f=false){φ:AV×St→Prop}(h:∀ st1 x,Pq [e] st0 st1 x→φ (x,st1)):
 T φ (Option.bind (eV (aY C0.P f 26 1 [(0,(.agg [.int .i64 e.k,.str e.s,.int .i64 e.v.k,.bool e.v.b,.int .i64 e.v.n,.str e.v.s,.aF,.aF,kv,nv]))]) st) fun o=>match o with | (x,st1)=>.some (x,st1)):=by
 subst hf
 have e1:eV (aY C0.P false 26 1 [(0,(.agg [.int .i64 e.k,.str e.s,.int .i64 e.v.k,.bool e.v.b,.int .i64 e.v.n,.str e.v.s,.aF,.aF,kv,nv]))]) st=.some (.sl st.next 10 1 10 (.some 1) (uK e kv nv),st.push (.nE 10)):=zJ (P:=C0.P) (t:=26) (sz:=10) st rfl (oS hx) (by decide)
 refine T.step e1 ?_
 refine T.some (h _ _ ⟨_,.inr ⟨_,_,_,_,rfl,rfl,Nat.lt_succ_self _,.inl rfl⟩,AQ.one hx,oS hx,k0.dX,fun id hi=>?_⟩)
 rw[show id=st.next from hi]
 exact k0.1
theorem C8 {R k : Nat} (HR : OH (HU R k).f13 k) : OH (fun a0 a1 a2 a3 a4 a5 a6 a7 a8 a9 st => qW (HU R k) a0 a1 a2 a3 a4 a5 a6 a7 a8 a9 st) (k + 1) := by
 intro e kv nv st φ hx hd hw h
 have hx1:=hx.one
 obtain⟨ok1,ok2⟩:=hx1
 obtain⟨kcs,a1,a2,a3⟩:=hx.inv
 show T φ (qW (HU R k) e.k e.s e.v.k e.v.b e.v.n e.v.s .aF .aF kv nv st)
 unfold qW
 refine T.step (Ku hx) ?_
 have K1:KN st (st.push (.cells 28 true [.int .i64 e.k,.str e.s,.int .i64 e.v.k,.bool e.v.b,.int .i64 e.v.n,.str e.v.s,.aF,.aF,kv,nv])):=KN.refl.dX
 repeat(refine T.step (by simp(disch:=(first | ((repeat(first | rw[aB] | rw[aE] | rw[List.length_cons] | rw[List.length_nil])) <;> omega) | (refine(?_:_∧True).1; constructor; simp only[aL, *]; exact True.intro))) only[aX]; try exact rfl) ?_)
 by_cases h0:e.k=0
 ·refine T.fA h0 ?_
  have ea:n9 (k+1) e=[]:=if_pos h0
  rw[ea] at h
  exact T.some (h _ _ ⟨[],.inl ⟨rfl,rfl⟩,AQ.nil,rfl,K1,fun id hi=>hi.elim⟩)
 ·refine T.gY h0 ?_
  by_cases h6:e.k=6
  ·refine T.fA h6 ?_
   repeat(refine T.step (by simp(disch:=(first | ((repeat(first | rw[aB] | rw[aE] | rw[List.length_cons] | rw[List.length_nil])) <;> omega) | (refine(?_:_∧True).1; constructor; simp only[aL, *]; exact True.intro))) only[aX]; try exact rfl) ?_)
   by_cases hs:e.s=[65,78,68]
   ·refine T.fA hs ?_
    repeat(refine T.step (by simp(disch:=(first | ((repeat(first | rw[aB] | rw[aE] | rw[List.length_cons] | rw[List.length_nil])) <;> omega) | (refine(?_:_∧True).1; constructor; simp only[aL, *]; exact True.intro))) only[aX]; try exact rfl) ?_)
    refine T.step (KW a1 a3) ?_
    by_cases hl:e.kids.length=2
    ·refine T.fA (by omega) ?_
     obtain⟨a,b,hk,h2⟩:=ED h6 hl
     obtain⟨_,_,q1,q2,q3⟩:=D9 h2
     have ea:n9 (k+1) e=n9 k a ++ n9 k b:=by
      show(if e.k=0 then [] else if e.s=[65,78,68] then(match two e with | .some (a,b)=>n9 k a ++ n9 k b | none=>[e]) else [e])=_
      rw[if_neg (by omega),if_pos hs,h2]
     rw[ea] at h
     rw[hk] at a3
     obtain⟨ka,na,la,xa⟩:∃ kv nv,(∀ st:St,loadAt C0.P st 28 (.pM (kcs.drop (0 * 10)))=.some (.agg (uK a kv nv)))∧RX a kv nv:=tJ a3 (show 0<[a,b].length from Nat.succ_pos _)
     obtain⟨kb,nb,lb,xb⟩:∃ kv nv,(∀ st:St,loadAt C0.P st 28 (.pM (kcs.drop (1 * 10)))=.some (.agg (uK b kv nv)))∧RX b kv nv:=tJ a3 (show 1<[a,b].length from Nat.lt_succ_self _)
     refine T.step (mM (sz:=10) (i:=0) a1 (by rw[a3.1]; simp only[List.length_cons,List.length_nil]; omega)) ?_
     refine T.step (la _) ?_
     refine T.step Fi ?_
     refine T.step (mM (sz:=10) (i:=1) a1 (by rw[a3.1]; simp only[List.length_cons,List.length_nil]; omega)) ?_
     refine T.step (lb _) ?_
     refine T.step Fi ?_
     refine T.bind (HR _ _ _ _ _ xa (by omega) (by omega) fun st1 x1 hr1=>?_)
     obtain⟨c1,s1,r1,o1,k1,f1⟩:=hr1
     have n_k1:=k1.le; (try simp only[aB,aE] at n_k1)
     refine T.step (lb _) ?_
     refine T.fA (LX xb) ?_
     have g1:st1.aS.get st.next=.some (.cells 28 true [.int .i64 e.k,.str e.s,.int .i64 e.v.k,.bool e.v.b,.int .i64 e.v.n,.str e.v.s,.aF,.aF,kv,nv]):=by simp(disch:=(first | ((repeat(first | rw[aB] | rw[aE] | rw[List.length_cons] | rw[List.length_nil])) <;> omega) | (refine(?_:_∧True).1; constructor; simp only[aL, *]; exact True.intro))) only[cD,k1.2.1]
     repeat(refine T.step (by simp(disch:=(first | ((repeat(first | rw[aB] | rw[aE] | rw[List.length_cons] | rw[List.length_nil])) <;> omega) | (refine(?_:_∧True).1; constructor; simp only[aL, *]; exact True.intro))) only[aX,g1]; try exact rfl) ?_)
     refine T.fA (Ca a1 a3) ?_
     refine T.bind (HR _ _ _ _ _ xb (by omega) (by omega) fun st2 x2 hr2=>?_)
     obtain⟨c2,s2,r2,o2,k2,f2⟩:=hr2
     have l1:=uB k a
     have l2:=uB k b
     obtain⟨x3,st3,e3,s3,p3,f3,ol3⟩:=Kc (P:=C0.P) (t:=26) (Sl.kn s1 k2) s2.row o2 (by rw[r1.1]; unfold iL; omega) (by rw[r2.1]; unfold iL; omega)
     refine T.step e3 ?_
     have K2:KN st st2:=(K1.trans k1).trans k2
     refine T.some (h _ _ ⟨_,s3,r1.append r2,by rw[List.all_append,o1,o2]; rfl,K2.keeps p3 ol3 (fun id hi=>?_),fun id hi=>?_⟩)
     ·have:=f1 id hi
      (try simp only[aB] at this); omega
     ·rcases f3 id hi with hi | hi
      ·have:=f1 id hi
       (try simp only[aB] at this); omega
      ·exact Nat.le_trans K2.1 hi
    ·refine T.gY (by omega) ?_
     have ea:n9 (k+1) e=[e]:=by
      show(if e.k=0 then [] else if e.s=[65,78,68] then(match two e with | .some (a,b)=>n9 k a ++ n9 k b | none=>[e]) else [e])=_
      rw[if_neg (by omega),if_pos hs,tS (.inr hl)]
     repeat(refine T.step (by simp(disch:=(first | ((repeat(first | rw[aB] | rw[aE] | rw[List.length_cons] | rw[List.length_nil])) <;> omega) | (refine(?_:_∧True).1; constructor; simp only[aL, *]; exact True.intro))) only[aX]; try exact rfl) ?_)
     exact BF hx K1 rfl (by rw[ea] at h; exact h)
   ·refine T.gY hs ?_
    have ea:n9 (k+1) e=[e]:=by
     show(if e.k=0 then [] else if e.s=[65,78,68] then(match two e with | .some (a,b)=>n9 k a ++ n9 k b | none=>[e]) else [e])=_
     rw[if_neg (by omega),if_neg hs]
    repeat(refine T.step (by simp(disch:=(first | ((repeat(first | rw[aB] | rw[aE] | rw[List.length_cons] | rw[List.length_nil])) <;> omega) | (refine(?_:_∧True).1; constructor; simp only[aL, *]; exact True.intro))) only[aX]; try exact rfl) ?_)
    exact BF hx K1 rfl (by rw[ea] at h; exact h)
  ·refine T.gY h6 ?_
   have ea:n9 (k+1) e=[e]:=by
    show(if e.k=0 then [] else if e.s=[65,78,68] then(match two e with | .some (a,b)=>n9 k a ++ n9 k b | none=>[e]) else [e])=_
    rw[if_neg h0,tS (.inl h6)]
    split <;> rfl
   repeat(refine T.step (by simp(disch:=(first | ((repeat(first | rw[aB] | rw[aE] | rw[List.length_cons] | rw[List.length_nil])) <;> omega) | (refine(?_:_∧True).1; constructor; simp only[aL, *]; exact True.intro))) only[aX]; try exact rfl) ?_)
   exact BF hx K1 rfl (by rw[ea] at h; exact h)
theorem HJ (R:Nat):∀ k,OH (HU R k).f13 k:=by
 intro k
 induction k with
 | zero =>
   intro e _ _ _ _ _ hd _ _
   have:1≤e.dp:=by
    cases e
    simp only[Ex.dp]
    omega
   omega
 | succ k ih=>exact C8 ih
theorem zM (R:Nat):OH (pD R) 4001:=C8 (HJ R 4000)
theorem rR {R k : Nat} (HR : OH (IW R k).f14 k) : OH (fun a0 a1 a2 a3 a4 a5 a6 a7 a8 a9 st => gF (IW R k) a0 a1 a2 a3 a4 a5 a6 a7 a8 a9 st) (k + 1) := by
 intro e kv nv st φ hx hd hw h
 have hx1:=hx.one
 obtain⟨ok1,ok2⟩:=hx1
 obtain⟨kcs,a1,a2,a3⟩:=hx.inv
 show T φ (gF (IW R k) e.k e.s e.v.k e.v.b e.v.n e.v.s .aF .aF kv nv st)
 unfold gF
 refine T.step (Ku hx) ?_
 have K1:KN st (st.push (.cells 28 true [.int .i64 e.k,.str e.s,.int .i64 e.v.k,.bool e.v.b,.int .i64 e.v.n,.str e.v.s,.aF,.aF,kv,nv])):=KN.refl.dX
 repeat(refine T.step (by simp(disch:=(first | ((repeat(first | rw[aB] | rw[aE] | rw[List.length_cons] | rw[List.length_nil])) <;> omega) | (refine(?_:_∧True).1; constructor; simp only[aL, *]; exact True.intro))) only[aX]; try exact rfl) ?_)
 by_cases h6:e.k=6
 ·refine T.fA h6 ?_
  repeat(refine T.step (by simp(disch:=(first | ((repeat(first | rw[aB] | rw[aE] | rw[List.length_cons] | rw[List.length_nil])) <;> omega) | (refine(?_:_∧True).1; constructor; simp only[aL, *]; exact True.intro))) only[aX]; try exact rfl) ?_)
  by_cases hs:e.s=[65,78,68]
  ·refine T.fA hs ?_
   repeat(refine T.step (by simp(disch:=(first | ((repeat(first | rw[aB] | rw[aE] | rw[List.length_cons] | rw[List.length_nil])) <;> omega) | (refine(?_:_∧True).1; constructor; simp only[aL, *]; exact True.intro))) only[aX]; try exact rfl) ?_)
   refine T.step (KW a1 a3) ?_
   by_cases hl:e.kids.length=2
   ·refine T.fA (by omega) ?_
    obtain⟨a,b,hk,h2⟩:=ED h6 hl
    obtain⟨_,_,q1,q2,q3⟩:=D9 h2
    have ea:n9 (k+1) e=n9 k a ++ n9 k b:=by
     show(if e.k=0 then [] else if e.s=[65,78,68] then(match two e with | .some (a,b)=>n9 k a ++ n9 k b | none=>[e]) else [e])=_
     rw[if_neg (by omega),if_pos hs,h2]
    rw[ea] at h
    rw[hk] at a3
    obtain⟨ka,na,la,xa⟩:∃ kv nv,(∀ st:St,loadAt C0.P st 28 (.pM (kcs.drop (0 * 10)))=.some (.agg (uK a kv nv)))∧RX a kv nv:=tJ a3 (show 0<[a,b].length from Nat.succ_pos _)
    obtain⟨kb,nb,lb,xb⟩:∃ kv nv,(∀ st:St,loadAt C0.P st 28 (.pM (kcs.drop (1 * 10)))=.some (.agg (uK b kv nv)))∧RX b kv nv:=tJ a3 (show 1<[a,b].length from Nat.lt_succ_self _)
    refine T.step (mM (sz:=10) (i:=0) a1 (by rw[a3.1]; simp only[List.length_cons,List.length_nil]; omega)) ?_
    refine T.step (la _) ?_
    refine T.step Fi ?_
    refine T.step (mM (sz:=10) (i:=1) a1 (by rw[a3.1]; simp only[List.length_cons,List.length_nil]; omega)) ?_
    refine T.step (lb _) ?_
    refine T.step Fi ?_
    refine T.bind (HR _ _ _ _ _ xa (by omega) (by omega) fun st1 x1 hr1=>?_)
    obtain⟨c1,s1,r1,o1,k1,f1⟩:=hr1
    have n_k1:=k1.le; (try simp only[aB,aE] at n_k1)
    refine T.step (lb _) ?_
    refine T.fA (LX xb) ?_
    have g1:st1.aS.get st.next=.some (.cells 28 true [.int .i64 e.k,.str e.s,.int .i64 e.v.k,.bool e.v.b,.int .i64 e.v.n,.str e.v.s,.aF,.aF,kv,nv]):=by simp(disch:=(first | ((repeat(first | rw[aB] | rw[aE] | rw[List.length_cons] | rw[List.length_nil])) <;> omega) | (refine(?_:_∧True).1; constructor; simp only[aL, *]; exact True.intro))) only[cD,k1.2.1]
    repeat(refine T.step (by simp(disch:=(first | ((repeat(first | rw[aB] | rw[aE] | rw[List.length_cons] | rw[List.length_nil])) <;> omega) | (refine(?_:_∧True).1; constructor; simp only[aL, *]; exact True.intro))) only[aX,g1]; try exact rfl) ?_)
    refine T.fA (Ca a1 a3) ?_
    refine T.bind (HR _ _ _ _ _ xb (by omega) (by omega) fun st2 x2 hr2=>?_)
    obtain⟨c2,s2,r2,o2,k2,f2⟩:=hr2
    have l1:=uB k a
    have l2:=uB k b
    obtain⟨x3,st3,e3,s3,p3,f3,ol3⟩:=Kc (P:=C0.P) (t:=26) (Sl.kn s1 k2) s2.row o2 (by rw[r1.1]; unfold iL; omega) (by rw[r2.1]; unfold iL; omega)
    refine T.step e3 ?_
    have K2:KN st st2:=(K1.trans k1).trans k2
    refine T.some (h _ _ ⟨_,s3,r1.append r2,by rw[List.all_append,o1,o2]; rfl,K2.keeps p3 ol3 (fun id hi=>?_),fun id hi=>?_⟩)
    ·have:=f1 id hi
     (try simp only[aB] at this); omega
    ·rcases f3 id hi with hi | hi
     ·have:=f1 id hi
      (try simp only[aB] at this); omega
     ·exact Nat.le_trans K2.1 hi
   ·refine T.gY (by omega) ?_
    have ea:n9 (k+1) e=[e]:=by
     show(if e.k=0 then [] else if e.s=[65,78,68] then(match two e with | .some (a,b)=>n9 k a ++ n9 k b | none=>[e]) else [e])=_
     rw[if_neg (by omega),if_pos hs,tS (.inr hl)]
    repeat(refine T.step (by simp(disch:=(first | ((repeat(first | rw[aB] | rw[aE] | rw[List.length_cons] | rw[List.length_nil])) <;> omega) | (refine(?_:_∧True).1; constructor; simp only[aL, *]; exact True.intro))) only[aX]; try exact rfl) ?_)
    exact BF hx K1 rfl (by rw[ea] at h; exact h)
  ·refine T.gY hs ?_
   have ea:n9 (k+1) e=[e]:=by
    show(if e.k=0 then [] else if e.s=[65,78,68] then(match two e with | .some (a,b)=>n9 k a ++ n9 k b | none=>[e]) else [e])=_
    rw[if_neg (by omega),if_neg hs]
   repeat(refine T.step (by simp(disch:=(first | ((repeat(first | rw[aB] | rw[aE] | rw[List.length_cons] | rw[List.length_nil])) <;> omega) | (refine(?_:_∧True).1; constructor; simp only[aL, *]; exact True.intro))) only[aX]; try exact rfl) ?_)
   exact BF hx K1 rfl (by rw[ea] at h; exact h)
 ·refine T.gY h6 ?_
  by_cases h0:e.k=0
  ·refine T.fA h0 ?_
   have ea:n9 (k+1) e=[]:=if_pos h0
   rw[ea] at h
   exact T.some (h _ _ ⟨[],.inl ⟨rfl,rfl⟩,AQ.nil,rfl,K1,fun id hi=>hi.elim⟩)
  ·refine T.gY h0 ?_
   have ea:n9 (k+1) e=[e]:=by
    show(if e.k=0 then [] else if e.s=[65,78,68] then(match two e with | .some (a,b)=>n9 k a ++ n9 k b | none=>[e]) else [e])=_
    rw[if_neg h0,tS (.inl h6)]
    split <;> rfl
   repeat(refine T.step (by simp(disch:=(first | ((repeat(first | rw[aB] | rw[aE] | rw[List.length_cons] | rw[List.length_nil])) <;> omega) | (refine(?_:_∧True).1; constructor; simp only[aL, *]; exact True.intro))) only[aX]; try exact rfl) ?_)
   exact BF hx K1 rfl (by rw[ea] at h; exact h)
theorem A8 (R:Nat):∀ k,OH (IW R k).f14 k:=by
 intro k
 induction k with
 | zero =>
   intro e _ _ _ _ _ hd _ _
   have:1≤e.dp:=by
    cases e
    simp only[Ex.dp]
    omega
   omega
 | succ k ih=>exact rR ih
theorem sA (R:Nat):OH (jZ R) 4001:=rR (A8 R 4000)
end
end Go.Proofs.YthodfojhbbendaaGreatDoor
end
section
set_option linter.all false
set_option maxRecDepth 100000
set_option maxHeartbeats 4000000
namespace Go.Proofs.YthodfojhbbendaaGreatDoor
open Go Go.Ev
noncomputable section
attribute [local congr] n7 sW
theorem OJ {st:St}{id:Nat}{t:TypeId}{u:Bool}{a b c x y:AV}:Mc st id (.some (.cells t u [a,b,c])) 1 [x,y]=.some (st.put id (.cells t u [a,x,y])):=Gv (show 1+[x,y].length≤[a,b,c].length from Nat.le_refl _)
theorem Gb : ∀ a b : List UInt8, strLt b a = !(strLt a b || gT a b)
 | [],[]=>rfl
 | [],_ :: _=>rfl
 | _ :: _,[]=>rfl
 | a :: x, b :: y => by
   have ih:=Gb x y
   unfold strLt gT
   rcases Nat.lt_trichotomy a.toNat b.toNat with h | h | h
   ·have e1:Nat.blt a.toNat b.toNat=true:=Nat.ble_eq_true_of_le h
    have e2:Nat.blt b.toNat a.toNat=false:=Ks (by omega)
    have e3:Nat.beq b.toNat a.toNat=false:=by
     rcases hq:Nat.beq b.toNat a.toNat with _ | _
     ·rfl
     ·have:=Nat.eq_of_beq_eq_true hq; omega
    simp only[e1,e2,e3,Bool.true_or,Bool.false_or,Bool.false_and,Bool.not_true]
   ·rw[h]
    have e1:Nat.blt b.toNat b.toNat=false:=Ks (by omega)
    simp only[e1,Nat.beq_refl,Bool.false_or,Bool.true_and]
    exact ih
   ·have e1:Nat.blt b.toNat a.toNat=true:=Nat.ble_eq_true_of_le h
    have e2:Nat.blt a.toNat b.toNat=false:=Ks (by omega)
    have e3:Nat.beq a.toNat b.toNat=false:=by
     rcases hq:Nat.beq a.toNat b.toNat with _ | _
     ·rfl
     ·have:=Nat.eq_of_beq_eq_true hq; omega
    simp only[e1,e2,e3,Bool.true_or,Bool.false_or,Bool.false_and,Bool.not_false]
theorem Hr (s:List UInt8):GB s 46=true↔46 ∈ s:=by
 unfold GB
 rw[decide_eq_true_eq]
 have hge:=Go.Lib.indexByte_ge s 46
 constructor
 ·intro h
  obtain⟨i,hi⟩:∃ i:Nat,Go.Lib.indexByte s 46=i:=⟨(Go.Lib.indexByte s 46).toNat,by omega⟩
  exact List.mem_of_getElem? (Go.Lib.indexByte_some hi).1
 ·intro h
  by_cases hm:Go.Lib.indexByte s 46= -1
  ·obtain⟨k,hk,e⟩:=List.getElem_of_mem h
   exact absurd (by rw[List.getElem?_eq_getElem hk,e]) (Go.Lib.indexByte_none hm k)
  ·omega
theorem Hx {R : Nat} {x : AV} {names : List (List UInt8)} {f : List UInt8} (hx : Row 1 x (names.map .str)) (hn : names.length ≤ 1000) {st : St} {φ : (Int × St) ⊕ St → Prop}
 (h1:∀ j:Nat,f ∈ names→φ (.inl ((j:Int),st))) (h2:f ∉ names→φ (.inr st)):∀(r i:Nat),i≤names.length→names.length - i<r→(∀ k:Nat,k<i→names[k]? ≠.some f)→T φ (iP R x f (names.length:Int) r (i:Int) st)
 | 0,_,_,hr,_=>absurd hr (Nat.not_lt_zero _)
 | r + 1, i, hi, hr, hb => by
   unfold iP
   by_cases hlt:i<names.length
   ·refine T.fA (by omega) ?_
    refine T.step (mM (sz:=1) (i:=i) hx (by rw[List.length_map]; omega)) ?_
    refine T.step (Jo hlt) ?_
    refine T.step Pd ?_
    by_cases he:f=names[i]
    ·refine T.fA he ?_
     exact T.some (h1 i (by rw[he]; exact List.getElem_mem hlt))
    ·refine T.gY he ?_
     have e1:IntKind.wrap .i64 ((i:Int)+1)=((i+1:Nat):Int):=by rw[wrap64 (by omega) (by omega)]; omega
     rw[e1]
     refine Hx hx hn h1 h2 r (i+1) hlt (by omega) fun k hk=>?_
     by_cases hki:k=i
     ·subst hki
      rw[List.getElem?_eq_getElem hlt]
      exact fun h=>he (Option.some.inj h).symm
     ·exact hb k (by omega)
   ·refine T.gY (by omega) ?_
    refine T.some (h2 fun hm=>?_)
    obtain⟨k,hk,e⟩:=List.getElem_of_mem hm
    exact hb k (by omega) (by rw[List.getElem?_eq_getElem hk,e])
theorem NB {x:AV}{names:List (List UInt8)}(hx:Row 1 x (names.map .str)):lenOf x=.some names.length:=by
 rw[sO hx (by decide),List.length_map,Nat.div_one]
theorem J3 {R:Nat}(hR:100000000<R){x:AV}{names:List (List UInt8)}{f:List UInt8}(hx:Row 1 x (names.map .str))(hn:names.length≤1000){st:St}{φ:Bool×St→Prop}(h:φ (decide (f ∈ names),st)):T φ (mE R x f st):=by
 unfold mE rP
 refine T.bind ?_
 refine T.step (NB hx) ?_
 refine T.bind (Hx hx hn (fun j hm=>?_) (fun hm=>?_) R 0 (Nat.zero_le _) (by omega) (fun k hk=>absurd hk (Nat.not_lt_zero _)))
 ·refine T.some ?_
  refine T.fA (by omega) ?_
  rw[decide_eq_true hm] at h
  exact T.some h
 ·refine T.some ?_
  refine T.gY (by decide) ?_
  rw[decide_eq_false hm] at h
  exact T.some h
theorem I3 {R : Nat} {x y : AV} {d1 d2 d3 : Nat} {i0 : Int} {b0 : Bool} {sg : List UInt8} {names : List (List UInt8)} {f : List UInt8} (hx : Row 1 x (names.map .str)) (hn : names.length ≤ 1000) {st : St} {φ : Bool × St → Prop}
 (h:φ (decide (f ∈ names),st)):∀(r i:Nat),i≤names.length→names.length - i<r→T φ (cR R x d1 d2 y i0 f sg d3 b0 r (decide (f ∈ names.take i)) (i:Int) st)
 | 0,_,_,hr=>absurd hr (Nat.not_lt_zero _)
 | r + 1, i, hi, hr => by
   unfold cR dW
   refine T.step (NB hx) ?_
   by_cases hlt:i<names.length
   ·refine T.fA (by omega) ?_
    have e1:IntKind.wrap .i64 ((i:Int)+1)=((i+1:Nat):Int):=by rw[wrap64 (by omega) (by omega)]; omega
    rw[e1]
    have e2:names.take (i+1)=names.take i ++ [names[i]]:=by rw[List.take_add_one,List.getElem?_eq_getElem hlt]; rfl
    have ih:=I3 (R:=R) (y:=y) (d1:=d1) (d2:=d2) (d3:=d3) (i0:=i0) (b0:=b0) (sg:=sg) hx hn h r (i+1) hlt (by omega)
    rw[e2] at ih
    refine T.bind ?_
    by_cases hm:f ∈ names.take i
    ·rw[decide_eq_true (List.mem_append_left _ hm)] at ih
     rw[decide_eq_true hm]
     refine T.fA rfl ?_
     exact T.some ih
    ·rw[decide_eq_false hm]
     refine T.gY (by decide) ?_
     refine T.step (mM (sz:=1) (i:=i) hx (by rw[List.length_map]; omega)) ?_
     refine T.step (Jo hlt) ?_
     refine T.step Pd ?_
     by_cases he:names[i]=f
     ·refine T.fA he ?_
      rw[decide_eq_true (List.mem_append_right _ (by rw[he]; exact List.mem_singleton.2 rfl))] at ih
      exact T.some ih
     ·refine T.gY he ?_
      rw[decide_eq_false (fun hq=>(List.mem_append.1 hq).elim hm fun hq=>he (List.mem_singleton.1 hq).symm)] at ih
      exact T.some ih
   ·refine T.gY (by omega) ?_
    rw[List.take_of_length_le (by omega)]
    exact T.some h
structure Pl where
 f:List UInt8
 lo:List UInt8
 hi:List UInt8
def Nr (st:St)(d:Nat)(p:Pl):Prop:=st.aS.get d=.some (.cells 35 true [.str p.f,.str p.lo,.str p.hi])
open Classical in
def uC (names : List (List UInt8)) (p : Pl) (e : Ex) : Pl :=
 if(gX e).2.2.2=true∧(sJ (gX e).2.1 (jS (gX e).2.2.1)).2.2=true∧46 ∉ (gX e).1∧(gX e).1 ∈ names∧(p.f=[]∨p.f=(gX e).1) then
  ⟨(gX e).1,(BY p.lo p.hi (sJ (gX e).2.1 (jS (gX e).2.2.1)).1 (sJ (gX e).2.1 (jS (gX e).2.2.1)).2.1).1,(BY p.lo p.hi (sJ (gX e).2.1 (jS (gX e).2.2.1)).1 (sJ (gX e).2.1 (jS (gX e).2.2.1)).2.1).2⟩
 else p
theorem Jw {e a b:Ex}(hk:e.kids=[a,b])(hw:e.wt≤10000000):a.v.s.length≤10000000∧b.v.s.length≤10000000:=by
 cases e with
 | mk k s v kids names =>
   have:kids=[a,b]:=hk
   subst this
   simp only[Ex.wt,Lh] at hw
   cases a; cases b
   simp only[Ex.wt] at hw
   simp only[Ex.v]
   omega
theorem O6 (e : Ex) (hw : e.wt ≤ 10000000) : (gX e).2.2.1.s.length ≤ 10000000 := by
 unfold gX
 split
 ·rename_i a b h2
  obtain⟨h1,h2⟩:=Jw (D9 h2).1 hw
  split
  ·split
   ·exact h2
   ·exact Nat.zero_le _
  ·split
   ·split
    ·exact h1
    ·exact Nat.zero_le _
   ·exact Nat.zero_le _
 ·exact Nat.zero_le _
theorem Nq {R : Nat} (hR : 100000000 < R) {ix : AV} {names : List (List UInt8)} (hix : Row 1 ix (names.map .str)) (hn : names.length ≤ 1000) {x : AV} {kcs : List AV} {l : List Ex} (hx : Row 10 x kcs) (hl : AQ l kcs) {i : Nat} (hi : i < l.length) {d1 d : Nat} {n : Int}
 {st:St} {p:Pl} (hp:Nr st d p) (hd:d<st.next) (hO:yG st) (hw:l[i].wt≤10000000) {φ:St→Prop} (h:∀ st1,KP d d st st1→Nr st1 d (uC names p l[i])→φ st1):T φ (iX R ix d1 d x n (i:Int) st):=by
 unfold iX
 obtain⟨kv,nv,le,xe⟩:=tJ hl hi
 refine T.step (mM (sz:=10) (i:=i) hx (by rw[hl.1]; omega)) ?_
 refine T.step (le _) ?_
 refine T.step Fi ?_
 have xe1:=xe.one
 obtain⟨oe1,oe2⟩:=xe1
 have hp0:st.aS.get d=.some (.cells 35 true [.str p.f,.str p.lo,.str p.hi]):=hp
 generalize hE:l[i]=e at *
 have K1:∀ q,KN st ((st.push (.cells 28 true q)).put st.next (.cells 28 true [.int .i64 e.k,.str e.s,.int .i64 e.v.k,.bool e.v.b,.int .i64 e.v.n,.str e.v.s,.aF,.aF,kv,nv])):=fun q=>(KN.refl.dX).loc (Nat.le_refl _)
 repeat(refine T.step (by simp(disch:=(first | ((repeat(first | rw[aB] | rw[aE] | rw[List.length_cons] | rw[List.length_nil])) <;> omega) | (refine(?_:_∧True).1; constructor; simp only[aL, *]; exact True.intro))) only[aX]; try exact rfl) ?_)
 refine T.bind (Nv xe fun st1 k1=>?_)
 have k1:=(K1 _).trans k1
 have n_k1:=k1.le; (try simp only[aB,aE] at n_k1)
 have hv:=O6 e hw
 generalize hS:gX e=sd at *
 obtain⟨f,sg,v,is⟩:=sd
 dsimp only at hv ⊢
 repeat(refine T.step (by simp(disch:=(first | ((repeat(first | rw[aB] | rw[aE] | rw[List.length_cons] | rw[List.length_nil])) <;> omega) | (refine(?_:_∧True).1; constructor; simp only[aL, *]; exact True.intro))) only[aX]; try exact rfl) ?_)
 have K2:∀ q,KN st ((st1.push (.cells 25 true q)).put st1.next (.cells 25 true [.int .i64 v.k,.bool v.b,.int .i64 v.n,.str v.s,.aF,.aF])):=fun q=>k1.dX.loc k1.1
 refine T.bind (PT hR hv (hO.kn (K2 _)) fun st2 k2=>?_)
 have k2:=(K2 _).trans k2
 have n_k2:=k2.le; (try simp only[aB,aE] at n_k2)
 have hps:uC names p e=if is=true∧(sJ sg (jS v)).2.2=true∧46 ∉ f∧f ∈ names∧(p.f=[]∨p.f=f) then⟨f,(BY p.lo p.hi (sJ sg (jS v)).1 (sJ sg (jS v)).2.1).1,(BY p.lo p.hi (sJ sg (jS v)).1 (sJ sg (jS v)).2.1).2⟩ else p:=by
  unfold uC
  rw[hS]
 generalize sJ sg (jS v)=sp at *
 obtain⟨lo,hi',ok⟩:=sp
 dsimp only at hps ⊢
 have g2:st2.aS.get d=.some (.cells 35 true [.str p.f,.str p.lo,.str p.hi]):=by rw[k2.2.1 d hd]; exact hp0
 repeat(refine T.step (by simp(disch:=(first | ((repeat(first | rw[aB] | rw[aE] | rw[List.length_cons] | rw[List.length_nil])) <;> omega) | (refine(?_:_∧True).1; constructor; simp only[aL, *]; exact True.intro))) only[aX]; try exact rfl) ?_)
 have K3:∀ q,KN st ((st2.push (.cells 33 true q)).put st2.next (.cells 33 true [.str lo,.str hi'])):=fun q=>k2.dX.loc k2.1
 have g3:∀ q,((st2.push (.cells 33 true q)).put st2.next (.cells 33 true [.str lo,.str hi'])).aS.get d=.some (.cells 35 true [.str p.f,.str p.lo,.str p.hi]):=fun q=>by simp(disch:=(first | ((repeat(first | rw[aB] | rw[aE] | rw[List.length_cons] | rw[List.length_nil])) <;> omega) | (refine(?_:_∧True).1; constructor; simp only[aL, *]; exact True.intro))) only[cD,g2]
 have hno:¬ (is=true∧ok=true∧46 ∉ f∧f ∈ names∧(p.f=[]∨p.f=f))→ ∀ q,φ ((st2.push (.cells 33 true q)).put st2.next (.cells 33 true [.str lo,.str hi'])):=fun hc q=>by
  refine h _ (K3 q).kp ?_
  rw[hps,if_neg hc]
  exact g3 q
 by_cases c1:is=true
 ·refine T.fA c1 ?_
  by_cases c2:ok=true
  ·refine T.fA c2 ?_
   refine T.step (show QK R f [46]=.some (GB f 46) from rfl) ?_
   by_cases c3:GB f 46=true
   ·refine T.fA c3 ?_
    exact T.some (hno (fun hc=>hc.2.2.1 ((Hr f).1 c3)) _)
   ·refine T.gY c3 ?_
    refine T.bind (J3 hR hix hn ?_)
    by_cases c4:f ∈ names
    ·refine T.fA (decide_eq_true c4) ?_
     repeat(refine T.step (by simp(disch:=(first | ((repeat(first | rw[aB] | rw[aE] | rw[List.length_cons] | rw[List.length_nil])) <;> omega) | (refine(?_:_∧True).1; constructor; simp only[aL, *]; exact True.intro))) only[aX,g2]; try exact rfl) ?_)
     have hyes:(p.f=[]∨p.f=f)→ ∀ q st3,KN ((st2.push (.cells 33 true q)).put st2.next (.cells 33 true [.str lo,.str hi'])) st3→φ ((st3.put d (.cells 35 true [.str f,.str p.lo,.str p.hi])).put d (.cells 35 true [.str f,.str (BY p.lo p.hi lo hi').1,.str (BY p.lo p.hi lo hi').2])):=fun hc q st3 k3=>by
      have K4:=(K3 q).trans k3
      refine h _ ((K4.kp.loc (.inl rfl)).loc (.inl rfl)) ?_
      rw[hps,if_pos ⟨c1,c2,fun hm=>c3 ((Hr f).2 hm),c4,hc⟩]
      exact i7 _ _ _
     by_cases c5:p.f=[]
     ·refine T.fA c5 ?_
      repeat(refine T.step (by simp(disch:=(first | ((repeat(first | rw[aB] | rw[aE] | rw[List.length_cons] | rw[List.length_nil])) <;> omega) | (refine(?_:_∧True).1; constructor; simp only[aL, *]; exact True.intro))) only[aX,g2,zW,OF]; try exact rfl) ?_)
      refine T.bind (Lw fun st3 k3=>?_)
      have n_k3:=k3.le; (try simp only[aB,aE] at n_k3)
      have g4:st3.aS.get d=.some (.cells 35 true [.str p.f,.str p.lo,.str p.hi]):=by rw[k3.2.1 d (by(try simp only[aB,aE]); omega)]; exact g3 _
      repeat(refine T.step (by simp(disch:=(first | ((repeat(first | rw[aB] | rw[aE] | rw[List.length_cons] | rw[List.length_nil])) <;> omega) | (refine(?_:_∧True).1; constructor; simp only[aL, *]; exact True.intro))) only[aX,g4,OJ]; try exact rfl) ?_)
      exact T.some (hyes (.inl c5) _ _ k3)
     ·refine T.gY c5 ?_
      by_cases c6:p.f=f
      ·refine T.fA c6 ?_
       repeat(refine T.step (by simp(disch:=(first | ((repeat(first | rw[aB] | rw[aE] | rw[List.length_cons] | rw[List.length_nil])) <;> omega) | (refine(?_:_∧True).1; constructor; simp only[aL, *]; exact True.intro))) only[aX,g2,zW,OF]; try exact rfl) ?_)
       refine T.bind (Lw fun st3 k3=>?_)
       have n_k3:=k3.le; (try simp only[aB,aE] at n_k3)
       have g4:st3.aS.get d=.some (.cells 35 true [.str p.f,.str p.lo,.str p.hi]):=by rw[k3.2.1 d (by(try simp only[aB,aE]); omega)]; exact g3 _
       repeat(refine T.step (by simp(disch:=(first | ((repeat(first | rw[aB] | rw[aE] | rw[List.length_cons] | rw[List.length_nil])) <;> omega) | (refine(?_:_∧True).1; constructor; simp only[aL, *]; exact True.intro))) only[aX,g4,OJ]; try exact rfl) ?_)
       exact T.some (hyes (.inr c6) _ _ k3)
      ·refine T.gY c6 ?_
       exact T.some (hno (fun hc=>hc.2.2.2.2.elim c5 c6) _)
    ·refine T.gY (fun hq=>c4 (of_decide_eq_true hq)) ?_
     exact T.some (hno (fun hc=>c4 hc.2.2.2.1) _)
  ·refine T.gY c2 ?_
   exact T.some (hno (fun hc=>c2 hc.2.1) _)
 ·refine T.gY c1 ?_
  exact T.some (hno (fun hc=>c1 hc.1) _)
end
end Go.Proofs.YthodfojhbbendaaGreatDoor
end
section
set_option linter.all false
set_option maxRecDepth 100000
set_option maxHeartbeats 4000000
namespace Go.Proofs.YthodfojhbbendaaGreatDoor
open Go Go.Ev
noncomputable section
attribute [local congr] n7 sW
def uL (sg k:List UInt8):List UInt8×List UInt8:=if sg=[61] then(k,uE k) else if sg=[60] then([],k) else if sg=[60,61] then([],uE k) else if sg=[62] then(uE k,[]) else(k,[])
def Kn (lo a:List UInt8):List UInt8:=if(!(strLt a lo || gT a lo))=true then a else lo
def GV (hi b:List UInt8):List UInt8:=if b=[] then hi else if hi=[] then b else if strLt b hi=true then b else hi
open Classical in
def Dy (names : List (List UInt8)) (p : Pl) (e : Ex) : Pl :=
 if(lV e).2.2.2=true∧(lV e).1 ∈ names∧(p.f=[]∨p.f=(lV e).1) then
  ⟨(lV e).1,Kn p.lo (uL (lV e).2.1 (jS (lV e).2.2.1)).1,GV p.hi (uL (lV e).2.1 (jS (lV e).2.2.1)).2⟩
 else p
theorem Kf {a b:Ex}{s:List UInt8}(h:b.v.s.length≤10000000):(yA a s b).2.2.1.s.length≤10000000:=by
 unfold yA
 split
 ·exact Nat.zero_le _
 ·split <;> exact h
theorem Oe (e:Ex)(hw:e.wt≤10000000):(lV e).2.2.1.s.length≤10000000:=by
 unfold lV
 split
 ·rename_i a b h2
  obtain⟨h1,h2⟩:=Jw (D9 h2).1 hw
  split
  ·exact Kf h1
  ·exact Kf h2
 ·exact Nat.zero_le _
theorem O9 {R : Nat} (hR : 100000000 < R) {x y : AV} {d1 d2 : Nat} {i : Int} {sg k : List UInt8} (hk : k.length ≤ 30000000) {st : St} {φ : List UInt8 × List UInt8 × St → Prop} (h : ∀ st1, KN st st1 → φ ((uL sg k).1, (uL sg k).2, st1)) : T φ (bS R x d1 d2 y i k sg st) := by
 unfold bS
 unfold uL at h
 by_cases h1:sg=[61]
 ·rw[if_pos h1] at h
  refine T.fA h1 ?_
  exact T.bind (JC hk hR fun st1 k1=>T.some (h st1 k1))
 ·rw[if_neg h1] at h
  refine T.gY h1 ?_
  by_cases h2:sg=[60]
  ·rw[if_pos h2] at h
   refine T.fA h2 ?_
   exact T.some (h st KN.refl)
  ·rw[if_neg h2] at h
   refine T.gY h2 ?_
   by_cases h3:sg=[60,61]
   ·rw[if_pos h3] at h
    refine T.fA h3 ?_
    exact T.bind (JC hk hR fun st1 k1=>T.some (h st1 k1))
   ·rw[if_neg h3] at h
    refine T.gY h3 ?_
    by_cases h4:sg=[62]
    ·rw[if_pos h4] at h
     refine T.fA h4 ?_
     exact T.bind (JC hk hR fun st1 k1=>T.some (h st1 k1))
    ·rw[if_neg h4] at h
     refine T.gY h4 ?_
     exact T.some (h st KN.refl)
theorem PM {R:Nat}(hR:100000000<R){v:Vl}{st:St}{φ:Int×Bool×Int×List UInt8×AV×AV×St→Prop}(h:∀ st1,KN st st1→φ (v.k,v.b,v.n,v.s,.aF,.aF,st1)):T φ (iY R v.k v.b v.n v.s .aF .aF st):=QC (by rw[NL]; exact hR) h
theorem P2 {R:Nat}(hR:100000000<R){v:Vl}(hs:v.s.length≤10000000){st:St}{φ:List UInt8×St→Prop}(h:∀ st1,KN st st1→φ (jS v,st1)):T φ (iW R v.k v.b v.n v.s .aF .aF st):=PY (by rw[Nu]; exact hR) hs h
theorem Mt {R : Nat} (hR : 100000000 < R) {x y : AV} {d1 d : Nat} {i : Int} {sg f : List UInt8} {v : Vl} (hv : v.s.length ≤ 10000000) {st0 st : St} {p : Pl} {id : Nat} (hd : d < st0.next) (hid : st0.next ≤ id) (hil : id < st.next) (K0 : KP d d st0 st)
 (gp:st.aS.get d=.some (.cells 35 true [.str p.f,.str p.lo,.str p.hi])) (gv:st.aS.get id=.some (.cells 25 true [.int .i64 v.k,.bool v.b,.int .i64 v.n,.str v.s,.aF,.aF])) {φ:St→Prop}
 (h : ∀ st1, KP d d st0 st1 → Nr st1 d ⟨f, Kn p.lo (uL sg (jS v)).1, GV p.hi (uL sg (jS v)).2⟩ → φ st1) : T φ (
  Option.bind (storeAt C0.P st 9 (.ref d 0) (.str f)) fun st8501=>
  Option.bind (loadAt C0.P st8501 25 (.ref id 0)) fun x8503=>
  Option.bind (aQ x8503) fun o=>match o with
  | (i8504,b8505,i8506,s8507,x8508,x8509)=>
  Option.bind (iY R i8504 b8505 i8506 s8507 x8508 x8509 st8501) fun o=>match o with
  | (i8511,b8512,i8513,s8514,x8515,x8516,st8518)=>
  Option.bind (iW R i8511 b8512 i8513 s8514 x8515 x8516 st8518) fun o=>match o with
  | (s8519,st8521)=>
  Option.bind (bS R x d1 d y i s8519 sg st8521) fun o=>match o with
  | (s8523,s8524,st8525)=>
  Option.bind (loadAt C0.P st8525 9 (.ref d 1)) fun x8527=>
  Option.bind (eY x8527) fun s8528=>
  if (!(strLt s8523 s8528 || gT s8523 s8528)) = true then
   Option.bind (bZ R x d1 d y i s8523 s8524 st8525) fun st8532=>
   if(s8524=[]) then
    .some st8532
   else
    Option.bind (loadAt C0.P st8532 9 (.ref d 2)) fun x8535=>
    Option.bind (eY x8535) fun s8536=>
    if(s8536=[]) then
     Option.bind (storeAt C0.P st8532 9 (.ref d 2) (.str s8524)) fun st8540=>
     .some st8540
    else
     if(strLt s8524 s8536)=true then
      Option.bind (storeAt C0.P st8532 9 (.ref d 2) (.str s8524)) fun st8543=>
      .some st8543
     else
      .some st8532
  else
   Option.bind (cM R x d1 d y i s8523 s8524) fun _=>
   if(s8524=[]) then
    .some st8525
   else
    Option.bind (loadAt C0.P st8525 9 (.ref d 2)) fun x8547=>
    Option.bind (eY x8547) fun s8548=>
    if(s8548=[]) then
     Option.bind (storeAt C0.P st8525 9 (.ref d 2) (.str s8524)) fun st8552=>
     .some st8552
    else
     if(strLt s8524 s8548)=true then
      Option.bind (storeAt C0.P st8525 9 (.ref d 2) (.str s8524)) fun st8555=>
      .some st8555
     else
      .some st8525):=by
 have hne:id≠d:=by omega
 have k0l:=K0.1
 repeat(refine T.step (by simp(disch:=(first | ((repeat(first | rw[aB] | rw[aE] | rw[List.length_cons] | rw[List.length_nil])) <;> omega) | (refine(?_:_∧True).1; constructor; simp only[aL, *]; exact True.intro))) only[aX,gp,gv]; try exact rfl) ?_)
 refine T.bind (PM hR fun st1 k1=>?_)
 refine T.bind (P2 hR hv fun st2 k2=>?_)
 refine T.bind (O9 hR (Nat.le_trans (Fa v hv) (by decide)) fun st3 k3=>?_)
 have K3:KN (st.put d (.cells 35 true [.str f,.str p.lo,.str p.hi])) st3:=(k1.trans k2).trans k3
 have hK:KP d d st0 st3:=(K0.loc (.inl rfl)).trans (⟨K3.1,fun j hj _ _=>K3.2.1 j hj,K3.2.2⟩)
 have g3:st3.aS.get d=.some (.cells 35 true [.str f,.str p.lo,.str p.hi]):=by rw[K3.2.1 d (by(try simp only[aE]); omega)]; exact i7 _ _ _
 generalize uL sg (jS v)=ls at *
 obtain⟨a,b⟩:=ls
 dsimp only at h ⊢
 have hn3:=hK.1
 repeat(refine T.step (by simp(disch:=(first | ((repeat(first | rw[aB] | rw[aE] | rw[List.length_cons] | rw[List.length_nil])) <;> omega) | (refine(?_:_∧True).1; constructor; simp only[aL, *]; exact True.intro))) only[aX,g3]; try exact rfl) ?_)
 unfold Kn GV at h
 by_cases c1:(!(strLt a p.lo || gT a p.lo))=true
 ·rw[if_pos c1] at h
  refine T.fA c1 ?_
  unfold bZ
  refine T.bind ?_
  repeat(refine T.step (by simp(disch:=(first | ((repeat(first | rw[aB] | rw[aE] | rw[List.length_cons] | rw[List.length_nil])) <;> omega) | (refine(?_:_∧True).1; constructor; simp only[aL, *]; exact True.intro))) only[aX,g3]; try exact rfl) ?_)
  refine T.some ?_
  have hK2:KP d d st0 (st3.put d (.cells 35 true [.str f,.str a,.str p.hi])):=hK.loc (.inl rfl)
  by_cases c2:b=[]
  ·rw[if_pos c2] at h
   refine T.fA c2 ?_
   exact T.some (h _ hK2 (i7 _ _ _))
  ·rw[if_neg c2] at h
   refine T.gY c2 ?_
   repeat(refine T.step (by simp(disch:=(first | ((repeat(first | rw[aB] | rw[aE] | rw[List.length_cons] | rw[List.length_nil])) <;> omega) | (refine(?_:_∧True).1; constructor; simp only[aL, *]; exact True.intro))) only[aX]; try exact rfl) ?_)
   by_cases c3:p.hi=[]
   ·rw[if_pos c3] at h
    refine T.fA c3 ?_
    repeat(refine T.step (by simp(disch:=(first | ((repeat(first | rw[aB] | rw[aE] | rw[List.length_cons] | rw[List.length_nil])) <;> omega) | (refine(?_:_∧True).1; constructor; simp only[aL, *]; exact True.intro))) only[aX]; try exact rfl) ?_)
    exact T.some (h _ (hK2.loc (.inl rfl)) (i7 _ _ _))
   ·rw[if_neg c3] at h
    refine T.gY c3 ?_
    by_cases c4:strLt b p.hi=true
    ·rw[if_pos c4] at h
     refine T.fA c4 ?_
     repeat(refine T.step (by simp(disch:=(first | ((repeat(first | rw[aB] | rw[aE] | rw[List.length_cons] | rw[List.length_nil])) <;> omega) | (refine(?_:_∧True).1; constructor; simp only[aL, *]; exact True.intro))) only[aX]; try exact rfl) ?_)
     exact T.some (h _ (hK2.loc (.inl rfl)) (i7 _ _ _))
    ·rw[if_neg c4] at h
     refine T.gY c4 ?_
     exact T.some (h _ hK2 (i7 _ _ _))
 ·rw[if_neg c1] at h
  refine T.gY c1 ?_
  refine T.step rfl ?_
  by_cases c2:b=[]
  ·rw[if_pos c2] at h
   refine T.fA c2 ?_
   exact T.some (h _ hK g3)
  ·rw[if_neg c2] at h
   refine T.gY c2 ?_
   repeat(refine T.step (by simp(disch:=(first | ((repeat(first | rw[aB] | rw[aE] | rw[List.length_cons] | rw[List.length_nil])) <;> omega) | (refine(?_:_∧True).1; constructor; simp only[aL, *]; exact True.intro))) only[aX,g3]; try exact rfl) ?_)
   by_cases c3:p.hi=[]
   ·rw[if_pos c3] at h
    refine T.fA c3 ?_
    repeat(refine T.step (by simp(disch:=(first | ((repeat(first | rw[aB] | rw[aE] | rw[List.length_cons] | rw[List.length_nil])) <;> omega) | (refine(?_:_∧True).1; constructor; simp only[aL, *]; exact True.intro))) only[aX,g3]; try exact rfl) ?_)
    exact T.some (h _ (hK.loc (.inl rfl)) (i7 _ _ _))
   ·rw[if_neg c3] at h
    refine T.gY c3 ?_
    by_cases c4:strLt b p.hi=true
    ·rw[if_pos c4] at h
     refine T.fA c4 ?_
     repeat(refine T.step (by simp(disch:=(first | ((repeat(first | rw[aB] | rw[aE] | rw[List.length_cons] | rw[List.length_nil])) <;> omega) | (refine(?_:_∧True).1; constructor; simp only[aL, *]; exact True.intro))) only[aX,g3]; try exact rfl) ?_)
     exact T.some (h _ (hK.loc (.inl rfl)) (i7 _ _ _))
    ·rw[if_neg c4] at h
     refine T.gY c4 ?_
     exact T.some (h _ hK g3)
theorem Nz {R : Nat} (hR : 100000000 < R) {ix : AV} {names : List (List UInt8)} (hix : Row 1 ix (names.map .str)) (hn : names.length ≤ 1000) {x : AV} {kcs : List AV} {l : List Ex} (hx : Row 10 x kcs) (hl : AQ l kcs) {i : Nat} (hi : i < l.length) {d1 d : Nat}
 {st:St} {p:Pl} (hp:Nr st d p) (hd:d<st.next) (hw:l[i].wt≤10000000) {φ:St→Prop} (h:∀ st1,KP d d st st1→Nr st1 d (Dy names p l[i])→φ st1):T φ (eH R ix d1 d x (i:Int) st):=by
 unfold eH
 obtain⟨kv,nv,le,xe⟩:=tJ hl hi
 refine T.step (mM (sz:=10) (i:=i) hx (by rw[hl.1]; omega)) ?_
 refine T.step (le _) ?_
 refine T.step Fi ?_
 have hp0:st.aS.get d=.some (.cells 35 true [.str p.f,.str p.lo,.str p.hi]):=hp
 generalize hE:l[i]=e at *
 refine T.bind (Ok hR xe hw fun st1 k1=>?_)
 have n_k1:=k1.le; (try simp only[aB,aE] at n_k1)
 have hv:=Oe e hw
 have hps:Dy names p e=if(lV e).2.2.2=true∧(lV e).1 ∈ names∧(p.f=[]∨p.f=(lV e).1) then
  ⟨(lV e).1,Kn p.lo (uL (lV e).2.1 (jS (lV e).2.2.1)).1,GV p.hi (uL (lV e).2.1 (jS (lV e).2.2.1)).2⟩
 else p:=rfl
 generalize hS:lV e=sd at *
 obtain⟨f,sg,v,is⟩:=sd
 dsimp only at hv hps ⊢
 have g1:st1.aS.get d=.some (.cells 35 true [.str p.f,.str p.lo,.str p.hi]):=by rw[k1.2.1 d hd]; exact hp0
 repeat(refine T.step (by simp(disch:=(first | ((repeat(first | rw[aB] | rw[aE] | rw[List.length_cons] | rw[List.length_nil])) <;> omega) | (refine(?_:_∧True).1; constructor; simp only[aL, *]; exact True.intro))) only[aX]; try exact rfl) ?_)
 have K2:∀ q,KN st ((st1.push (.cells 25 true q)).put st1.next (.cells 25 true [.int .i64 v.k,.bool v.b,.int .i64 v.n,.str v.s,.aF,.aF])):=fun q=>k1.dX.loc k1.1
 have g2:∀ q,((st1.push (.cells 25 true q)).put st1.next (.cells 25 true [.int .i64 v.k,.bool v.b,.int .i64 v.n,.str v.s,.aF,.aF])).aS.get d=.some (.cells 35 true [.str p.f,.str p.lo,.str p.hi]):=fun q=>by simp(disch:=(first | ((repeat(first | rw[aB] | rw[aE] | rw[List.length_cons] | rw[List.length_nil])) <;> omega) | (refine(?_:_∧True).1; constructor; simp only[aL, *]; exact True.intro))) only[cD,g1]
 have hno:¬ (is=true∧f ∈ names∧(p.f=[]∨p.f=f))→ ∀ q,φ ((st1.push (.cells 25 true q)).put st1.next (.cells 25 true [.int .i64 v.k,.bool v.b,.int .i64 v.n,.str v.s,.aF,.aF])):=fun hc q=>by
  refine h _ (K2 q).kp ?_
  rw[hps,if_neg hc]
  exact g2 q
 unfold eM
 refine T.bind ?_
 have ht:=fun(st:St) (φ:Bool×St→Prop) (hφ:φ (decide (f ∈ names),st))=>I3 (R:=R) (y:=x) (d1:=d1) (d2:=d) (d3:=st1.next) (i0:=(i:Int)) (b0:=is) (sg:=sg) hix hn hφ R 0 (Nat.zero_le _) (by omega)
 rw[List.take_zero] at ht
 refine T.bind (ht _ _ ?_)
 refine T.some ?_
 by_cases c1:is=true
 ·refine T.fA c1 ?_
  by_cases c4:f ∈ names
  ·refine T.fA (decide_eq_true c4) ?_
   repeat(refine T.step (by simp(disch:=(first | ((repeat(first | rw[aB] | rw[aE] | rw[List.length_cons] | rw[List.length_nil])) <;> omega) | (refine(?_:_∧True).1; constructor; simp only[aL, *]; exact True.intro))) only[aX,g1]; try exact rfl) ?_)
   by_cases c5:p.f=[]
   ·refine T.fA c5 ?_
    exact Mt hR hv hd k1.1 (Nat.lt_succ_self _) (K2 _).kp (g2 _) (i7 _ _ _) (fun st2 k2 hp2=>h st2 k2 (by rw[hps,if_pos ⟨c1,c4,.inl c5⟩]; exact hp2))
   ·refine T.gY c5 ?_
    by_cases c6:p.f=f
    ·refine T.fA c6 ?_
     exact Mt hR hv hd k1.1 (Nat.lt_succ_self _) (K2 _).kp (g2 _) (i7 _ _ _) (fun st2 k2 hp2=>h st2 k2 (by rw[hps,if_pos ⟨c1,c4,.inr c6⟩]; exact hp2))
    ·refine T.gY c6 ?_
     exact T.some (hno (fun hc=>hc.2.2.elim c5 c6) _)
  ·refine T.gY (fun hq=>c4 (of_decide_eq_true hq)) ?_
   exact T.some (hno (fun hc=>c4 hc.2.1) _)
 ·refine T.gY c1 ?_
  exact T.some (hno (fun hc=>c1 hc.1) _)
theorem Oo (lo a:List UInt8):cond (!strLt lo a) lo a=Kn lo a:=by
 unfold Kn
 rw[← Gb a lo]
 cases strLt lo a <;> rfl
theorem O4 (hi b:List UInt8):(if hi=[] then b else if b=[] then hi else if strLt b hi=true then b else hi)=GV hi b:=by
 unfold GV
 by_cases h1:hi=[]
 ·by_cases h2:b=[]
  ·rw[if_pos h1,if_pos h2,h1,h2]
  ·rw[if_pos h1,if_neg h2,if_pos h1]
 ·by_cases h2:b=[]
  ·rw[if_neg h1,if_pos h2,if_pos h2]
  ·rw[if_neg h1,if_neg h2,if_neg h2,if_neg h1]
theorem G8 (sg k:List UInt8):(Dk sg→sJ sg k=((uL sg k).1,(uL sg k).2,true))∧((sJ sg k).2.2=true→Dk sg):=by
 constructor
 ·rintro(rfl | rfl | rfl | rfl | rfl) <;> rfl
 ·unfold sJ Dk
  intro h
  repeat' split at h
  all_goals first | (simp_all; done) | skip
theorem GJ (s : List UInt8) : Dk (FM s) ↔ Dk (BU s) := by
 unfold FM BU
 by_cases h1:s=[60]
 ·subst h1; exact Iff.rfl
 ·by_cases h2:s=[60,61]
  ·subst h2; exact Iff.rfl
  ·by_cases h3:s=[62]
   ·subst h3; exact Iff.rfl
   ·by_cases h4:s=[62,61]
    ·subst h4; exact Iff.rfl
    ·rw[if_neg h1,if_neg h2,if_neg h3,if_neg h4,if_neg h1,if_neg h3,if_neg h2,if_neg h4]
     by_cases h5:s=[61]
     ·rw[if_pos h5,h5]
     ·rw[if_neg h5]
      constructor
      ·rintro(h | h | h | h | h)
       ·exact absurd h h5
       ·exact absurd h h1
       ·exact absurd h h2
       ·exact absurd h h3
       ·exact absurd h h4
      ·rintro(h | h | h | h | h) <;> cases h
theorem Ny {s : List UInt8} (h : Dk (BU s)) : FM s = BU s := by
 unfold FM BU at *
 by_cases h1:s=[60]
 ·subst h1; rfl
 ·by_cases h2:s=[60,61]
  ·subst h2; rfl
  ·by_cases h3:s=[62]
   ·subst h3; rfl
   ·by_cases h4:s=[62,61]
    ·subst h4; rfl
    ·rw[if_neg h1,if_neg h2,if_neg h3,if_neg h4,if_neg h1,if_neg h3,if_neg h2,if_neg h4] at *
     by_cases h5:s=[61]
     ·rw[if_pos h5,h5]
     ·rw[if_neg h5] at h
      rcases h with h | h | h | h | h <;> cases h
theorem LP (e : Ex) : ((lV e).2.2.2 = true ↔ ((gX e).2.2.2 = true ∧ Dk (gX e).2.1 ∧ 46 ∉ (gX e).1)) ∧ ((lV e).2.2.2 = true → (lV e).1 = (gX e).1 ∧ (lV e).2.1 = (gX e).2.1 ∧ (lV e).2.2.1 = (gX e).2.2.1) := by
 unfold lV gX
 cases two e with
 | none=>exact⟨⟨fun h=>(by cases h),fun h=>(by cases h.1)⟩,fun h=>(by cases h)⟩
 | some q =>
   obtain⟨a,b⟩:=q
   dsimp only
   by_cases c1:a.k=2
   ·rw[if_pos c1,if_neg (fun h=>by omega)]
    unfold yA
    by_cases hm:46 ∈ a.s
    ·rw[if_pos hm]
     refine⟨⟨fun h=>(by cases h),fun h=>?_⟩,fun h=>(by cases h)⟩
     by_cases c2:b.k=1
     ·rw[if_pos c2] at h; exact absurd hm h.2.2
     ·rw[if_neg c2] at h; cases h.1
    ·rw[if_neg hm]
     by_cases c2:b.k=1
     ·rw[if_pos c2]
      by_cases c3:Dk e.s
      ·rw[if_pos ⟨c1,c2,c3⟩]
       exact⟨⟨fun _=>⟨rfl,c3,hm⟩,fun _=>rfl⟩,fun _=>⟨rfl,rfl,rfl⟩⟩
      ·rw[if_neg (fun h=>c3 h.2.2)]
       exact⟨⟨fun h=>(by cases h),fun h=>absurd h.2.1 c3⟩,fun h=>(by cases h)⟩
     ·rw[if_neg c2,if_neg (fun h=>c2 h.2.1)]
      exact⟨⟨fun h=>(by cases h),fun h=>(by cases h.1)⟩,fun h=>(by cases h)⟩
   ·rw[if_neg c1]
    by_cases c2:a.k=1
    ·rw[if_pos c2]
     by_cases c3:b.k=2
     ·rw[if_pos ⟨c2,c3⟩,if_pos c3]
      unfold yA
      dsimp only
      by_cases hm:46 ∈ b.s
      ·rw[if_pos hm]
       exact⟨⟨fun h=>(by cases h),fun h=>absurd hm h.2.2⟩,fun h=>(by cases h)⟩
      ·rw[if_neg hm]
       by_cases c4:Dk (BU e.s)
       ·rw[if_pos ⟨c3,c2,c4⟩]
        exact⟨⟨fun _=>⟨rfl,(GJ _).2 c4,hm⟩,fun _=>rfl⟩,fun _=>⟨rfl,(Ny c4).symm,rfl⟩⟩
       ·rw[if_neg (fun h=>c4 h.2.2)]
        exact⟨⟨fun h=>(by cases h),fun h=>absurd ((GJ _).1 h.2.1) c4⟩,fun h=>(by cases h)⟩
     ·rw[if_neg (fun h=>c3 h.2),if_neg c3]
      unfold yA
      by_cases hm:46 ∈ a.s
      ·rw[if_pos hm]
       exact⟨⟨fun h=>(by cases h),fun h=>(by cases h.1)⟩,fun h=>(by cases h)⟩
      ·rw[if_neg hm,if_neg (fun h=>c1 h.1)]
       exact⟨⟨fun h=>(by cases h),fun h=>(by cases h.1)⟩,fun h=>(by cases h)⟩
    ·rw[if_neg c2,if_neg (fun h=>c2 h.1)]
     unfold yA
     by_cases hm:46 ∈ a.s
     ·rw[if_pos hm]
      exact⟨⟨fun h=>(by cases h),fun h=>(by cases h.1)⟩,fun h=>(by cases h)⟩
     ·rw[if_neg hm,if_neg (fun h=>c1 h.1)]
      exact⟨⟨fun h=>(by cases h),fun h=>(by cases h.1)⟩,fun h=>(by cases h)⟩
theorem step_eq (names:List (List UInt8))(p:Pl)(e:Ex):Dy names p e=uC names p e:=by
 obtain⟨h1,h2⟩:=LP e
 unfold Dy uC
 by_cases c:(lV e).2.2.2=true
 ·obtain⟨e1,e2,e3⟩:=h2 c
  obtain⟨q1,q2,q3⟩:=h1.1 c
  have sp:=(G8 (gX e).2.1 (jS (gX e).2.2.1)).1 q2
  rw[e1,e2,e3,sp]
  by_cases c2:(gX e).1 ∈ names∧(p.f=[]∨p.f=(gX e).1)
  ·rw[if_pos ⟨c,c2.1,c2.2⟩,if_pos ⟨q1,rfl,q3,c2.1,c2.2⟩]
   unfold BY
   dsimp only
   rw[Oo,O4]
  ·rw[if_neg (fun h=>c2 h.2),if_neg (fun h=>c2 h.2.2.2)]
 ·rw[if_neg (fun h=>c h.1),if_neg]
  rintro⟨q1,q2,q3,_⟩
  exact c (h1.2 ⟨q1,(G8 _ _).2 q2,q3⟩)
end
end Go.Proofs.YthodfojhbbendaaGreatDoor
end
section
set_option linter.all false
set_option maxRecDepth 100000
namespace Go.Proofs.YthodfojhbbendaaGreatDoor
open Go Go.Ev
noncomputable section
def fX (R : Nat) (b : List UInt8) (c : Int) : Nat → Int → Option ((Int))
 | 0,_=>none
 | r + 1, a =>
   if(a<(List.length b:Int)) then
    (zK b a).bind fun d=>
    (nR R d).bind fun e=>
    if e=true then
     fX R b c r (IntKind.wrap .i64 (a+1))
    else
     some a
   else
    some a
def lW (st:St)(o:(Int)):cE×List (Nat×AV)×St:=match o with
 | a0=>((.exit 0),[(7,.int .i64 a0)],st)
theorem wX (R n : Nat) (f : List UInt8) (g : Int) (a : St) : ∀ (r : Nat) (b : Int) (o : (Int)), fX R f g r b = some o →
 jL 25 (jA (fun fr k=>cZ C0 (aW C0 bK R (n+1)) 117 R none (dA C0.P 117 [1,1,0,0,0]) fr k) r) (dI (dA C0.P 117 [1,1,0,0,0])) [(0,(.str f)),(1,(.int .i64 g)),(2,(.func (.func 118) [] [])),(7,(.int .i64 b))] a (lW a o).1 (lW a o).2.1 (lW a o).2.2:=by
 intro r
 induction r with
 | zero=>intro b o h; exact nomatch h
 | succ r ih =>
   intro b o
   unfold fX;refine aU (fun c=>?_) (fun c=>?_)
   ·refine aA fun d i=>aA fun l j=>?_
    refine aU (fun e=>?_) (fun e=>?_)
    ·subst e;intro h;exact cS (aK (hs:=[.run 3,.dec true,.run 4,.val (.int .u8 d),.call (.bool true) a,.run 1,.aM,.aM,.run 3]) (want:=[0,1,2,7]) (by kernel_rfl) (.cons (wI R n d a _ j)<|.cons (gE (k:=.i64) (P:=C0.P) (t:=9) (by kernel_rfl) i)<|.cons (decide_eq_true c) .nil)) (ih (IntKind.wrap .i64 (b+1)) _ h)
    ·obtain rfl:=bF e;intro h;obtain rfl:=b9 h;exact bI (aK (hs:=[.run 3,.dec true,.run 4,.val (.int .u8 d),.call (.bool false) a,.run 1,.aM]) (want:=[7]) (by kernel_rfl) (.cons (wI R n d a _ j)<|.cons (gE (k:=.i64) (P:=C0.P) (t:=9) (by kernel_rfl) i)<|.cons (decide_eq_true c) .nil)) (by kernel_rfl)
   ·intro h;obtain rfl:=b9 h;exact bI (aK (hs:=[.run 3,.dec false,.run 2,.aM]) (want:=[7]) (by kernel_rfl) (.cons (decide_eq_false c) .nil)) (by kernel_rfl)
def lA (R:Nat)(a:List UInt8)(b:Int)(c:Int):Option (Int):=
 (fX R a b R c).bind fun d=>
 some d
theorem xN {R:Nat}(n:Nat){b:List UInt8}{c:Int}{d:Int}(a:St){r:Int}(h:lA R b c d=some r):
 oE 25 bK R (n+1) 117 [1,1,0] [(0,(.str b)),(1,(.int .i64 c)),(2,(.func (.func 118) [] [])),(7,(.int .i64 d))] a .normal [(7,.int .i64 r)] a:=by
 revert h;unfold lA;refine aA fun e f=>?_;intro h;obtain rfl:=b9 h;exact aK (hs:=[.aM,.abs [0,1,2,7] (.exit 0) [(7,(.int .i64 e))] a]) (want:=[7]) (by kernel_rfl) (aG (bY (wX R n b c a R d _ f)) eE)
def kM (R:Nat)(b:List UInt8)(a:Int):Option (Int):=
 (lA R b a a).bind fun c=>
 some (IntKind.wrap .i64 (c - a))
theorem pJ {R:Nat}(n:Nat){b:List UInt8}{c:Int}(a:St){r:Int}(h:kM R b c=some r):
 aR (aW C0 bK R (n+2)) false 117 [(.str b),(.int .i64 c),(.func (.func 118) [] [])] a (.int .i64 r) a:=by
 revert h;unfold kM;refine aA fun d e=>?_;intro h;obtain rfl:=b9 h;exact dE (hs:=[.run 3,.nW [0,1,2,7] .normal [(7,(.int .i64 d))] a,.run 4]) (by kernel_rfl) (aG (xN n a e) eE)
def kP (R : Nat) (b : List UInt8) : Nat → AV → Int → St → Option ((AV × Int × Int × St) ⊕ (AV × St))
 | 0,_,_,_=>none
 | r + 1, f, a, c =>
   if(a<(List.length b:Int)) then
    (sQ R b a).bind fun(g,h,i,d)=>
    (storeAt C0.P (St.push c (.cells 129 true [(.int .i64 0),(.str []),(.int .i64 0)])) 129 (.ref (St.next c) 0) (.agg [(.int .i64 g),(.str h),(.int .i64 i)])).bind fun e=>
    if(d=0) then
     some (.inl (AV.aF,a,110,e))
    else
     (loadAt C0.P e 129 (.ref (St.next c) 0)).bind fun j=>
     (bU j).bind fun(k,l,m)=>
     (eV (aY C0.P (C0.cQ 76) 121 1 [(0,(.agg [(.int .i64 k),(.str l),(.int .i64 m)]))]) e).bind fun(n,o)=>
     (cX C0.P (C0.cQ 76) o #[121,121] f n).bind fun(p,q)=>
     (kM R b (IntKind.wrap .i64 (a+d))).bind fun s=>
     kP R b r p (IntKind.wrap .i64 ((IntKind.wrap .i64 (a+d))+s)) q
   else
    some (.inr (f,c))
def pW (o:(AV×Int×Int×St) ⊕ (AV×St)):cE×List (Nat×AV)×St:=match o with
 | .inl (a0,a1,a2,a3)=>(.ret,[(2,a0),(3,.int .i64 a1),(4,.int .i64 a2)],a3)
 | .inr (a0,a1)=>((.exit 0),[(5,a0)],a1)
theorem uD (R n : Nat) (c : List UInt8) : ∀ (r : Nat) (d : AV) (b : Int) (a : St) (o : (AV × Int × Int × St) ⊕ (AV × St)), kP R c r d b a = some o →
 jL 45 (jA (fun fr k=>cZ C0 (aW C0 bK R (n+2)) 76 R none (dA C0.P 76 [1,1,1,1,0,0,0]) fr k) r) (dI (dA C0.P 76 [1,1,1,1,0,0,0])) [(0,(.str c)),(5,d),(6,(.int .i64 b))] a (pW o).1 (pW o).2.1 (pW o).2.2:=by
 intro r
 induction r with
 | zero=>intro d b a o h; exact nomatch h
 | succ r ih =>
   intro d b a o
   unfold kP;refine aU (fun e=>?_) (fun e=>?_)
   ·refine aA fun o j=>?_;obtain⟨l,m,p,g⟩:=o;refine aA fun q s=>?_;refine aU (fun i=>?_) (fun i=>?_)
    ·intro h;obtain rfl:=b9 h;exact bI (aK (hs:=[.run 3,.dec true,.aM,.aM,.run 2,.call (.tuple [(.agg [(.int .i64 l),(.str m),(.int .i64 p)]),(.int .i64 g)]) a,.run 4,.cA AV.undef q,.run 2,.dec true,.aM,.run 4]) (want:=[2,3,4]) (by kernel_rfl) (.cons (eG i)<|.cons (aN s)<|.cons (xV R (n+1) c b a _ j)<|.cons (decide_eq_true e) .nil)) (by kernel_rfl)
    ·refine aA fun F v=>aA fun o w=>?_
     obtain⟨x,y,z⟩:=o;obtain rfl:=bR w;refine aA fun o A=>?_;obtain⟨B,C⟩:=o;refine aA fun o D=>?_;obtain⟨t,f⟩:=o;refine aA fun u E=>?_;intro h;exact cS (aK (hs:=[.run 3,.dec true,.aM,.aM,.run 2,.call (.tuple [(.agg [(.int .i64 l),(.str m),(.int .i64 p)]),(.int .i64 g)]) a,.run 4,.cA AV.undef q,.run 2,.dec false,.aM,.run 1,.val (.agg [(.int .i64 x),(.str y),(.int .i64 z)]),.cA B C,.cA t f,.run 8,.call (.int .i64 u) f,.run 2]) (want:=[0,5,6]) (by kernel_rfl) (.cons (pJ n f E)<|.cons D<|.cons A<|.cons v<|.cons (dP i)<|.cons (aN s)<|.cons (xV R (n+1) c b a _ j)<|.cons (decide_eq_true e) .nil)) (ih t (IntKind.wrap .i64 ((IntKind.wrap .i64 (b+g))+u)) f _ h)
   ·intro h;obtain rfl:=b9 h;exact bI (aK (hs:=[.run 3,.dec false,.aM]) (want:=[5]) (by kernel_rfl) (.cons (decide_eq_false e) .nil)) (by kernel_rfl)
def z7 (R : Nat) (a : List UInt8) (b : St) : Option (AV × Int × Int × St) :=
 if((List.length a:Int)>2000) then
  some (AV.aF,2000,3,b)
 else
  (kM R a 0).bind fun c=>
  (kP R a R AV.aF c b).bind fun o=>match o with
  | .inl (d,e,f,g)=>
   some (d,e,f,g)
  | .inr (h,i)=>
   (eV (aY C0.P (C0.cQ 76) 121 1 [(0,(.agg [(.int .i64 0),(.str []),(.int .i64 (List.length a:Int))]))]) i).bind fun(j,k)=>
   (cX C0.P (C0.cQ 76) k #[121,121] h j).bind fun(l,m)=>
   some (l,0,0,m)
theorem Gy {R:Nat}(n:Nat){b:List UInt8}{a:St}{r:AV×Int×Int×St}(h:z7 R b a=some r):
 aR (aW C0 bK R (n+3)) false 76 [(.str b)] a (.tuple [r.1,(.int .i64 r.2.1),(.int .i64 r.2.2.1)]) r.2.2.2:=by
 revert h;unfold z7;refine aU (fun c=>?_) (fun c=>?_)
 ·intro h;obtain rfl:=b9 h;exact dE (hs:=[.run 5,.dec true,.aM,.run 3]) (by kernel_rfl) (aG (decide_eq_true c) eE)
 ·refine aA fun d e=>aA fun o f=>?_
  rcases o with⟨g,i,j,k⟩ | ⟨l,m⟩
  ·intro h;obtain rfl:=b9 h;exact dE (hs:=[.run 5,.dec false,.aM,.run 2,.call (.int .i64 d) a,.run 1,.aM,.abs [0,5,6] .ret [(2,g),(3,(.int .i64 i)),(4,(.int .i64 j))] k]) (by kernel_rfl) (aG (bY (uD R n b R AV.aF d a _ f))<|aG (pJ n a e)<|aG (decide_eq_false c) eE)
  ·refine aA fun o p=>?_;obtain⟨q,s⟩:=o;refine aA fun o t=>?_;obtain⟨u,v⟩:=o;intro h;obtain rfl:=b9 h;exact dE (hs:=[.run 5,.dec false,.aM,.run 2,.call (.int .i64 d) a,.run 1,.aM,.abs [0,5,6] (.exit 0) [(5,l)] m,.run 4,.cA q s,.cA u v,.run 3]) (by kernel_rfl) (aG t<|aG p<|aG (bY (uD R n b R AV.aF d a _ f))<|aG (pJ n a e)<|aG (decide_eq_false c) eE)
end
end Go.Proofs.YthodfojhbbendaaGreatDoor
end
section
set_option linter.all false
set_option maxRecDepth 100000
namespace Go.Proofs.YthodfojhbbendaaGreatDoor
open Go Go.Ev
noncomputable section
def lT (R:Nat)(a:Nat)(b:AV)(c:Nat):Option (Unit):=
 some ()
theorem yL {R:Nat}(n:Nat){a:Nat}{b:AV}{c:Nat}(d:St){r:Unit}(h:lT R a b c=some r):
 oE 55 bK R (n+24005) 33 [1,1,1,1,1,0,1] [(2,(.ref a 0)),(8,b),(9,(.ref c 0)),(37,(.bool false))] d .normal [] d:=by
 revert h;unfold lT;intro h;obtain rfl:=b9 h;exact aK (hs:=[.aM]) (want:=[]) (by kernel_rfl) .nil
def kO (R:Nat)(d:Nat)(a:AV)(e:Nat)(b:St):Option (St):=
 (bV R a 120 b).bind fun c=>
 some c
theorem wY {R:Nat}(n:Nat){a:Nat}{b:AV}{c:Nat}{d:St}{r:St}(h:kO R a b c d=some r):
 oE 55 bK R (n+24005) 33 [1,1,1,1,1,0,1] [(2,(.ref a 0)),(8,b),(9,(.ref c 0)),(37,(.bool true))] d .normal [] r:=by
 revert h;unfold kO;refine aA fun e f=>?_;intro h;obtain rfl:=b9 h;exact aK (hs:=[.aM,.run 1,.call (.tuple []) e]) (want:=[]) (by kernel_rfl) (aG (cK (n+24004) f) eE)
def rK (R : Nat) (v : List UInt8) (b : St) : Option (Int × List UInt8 × List UInt8 × Int × List UInt8 × Int × Bool × Int × List UInt8 × AV × AV × AV × AV × AV × AV × Int × List UInt8 × Int × Bool × Int × List UInt8 × AV × AV × AV × AV × AV × Bool × Bool × List UInt8 × Bool × Int × Int × Int × St) :=
 (z7 R v (St.push b (.cells 58 true [(.int .i64 0),(.str []),(.str []),(.int .i64 0),(.str []),(.int .i64 0),(.bool false),(.int .i64 0),(.str []),AV.aF,AV.aF,AV.aF,AV.aF,AV.aF,AV.aF,(.int .i64 0),(.str []),(.int .i64 0),(.bool false),(.int .i64 0),(.str []),AV.aF,AV.aF,AV.aF,AV.aF,AV.aF,(.bool false),(.bool false),(.str []),(.bool false),(.int .i64 0)]))).bind fun(j,w,k,l)=>
 if (k = 0) then
  (Ar j).bind fun _=>
  (oQ 126 (.agg [j,(.int .i64 0),(.int .i64 0),(.int .i64 0),(.int .i64 0),(.int .i64 0)]) l).bind fun(a,x)=>
  (kW R a x).bind fun(y,z,A,B,C,D,E,F,G,H,I,J,K,L,M,N,O,Q,S,T,U,V,W,X,Y,Z,a0,a1,a2,a3,a4,d)=>
  (storeAt C0.P (St.push d (.cells 58 true [(.int .i64 0),(.str []),(.str []),(.int .i64 0),(.str []),(.int .i64 0),(.bool false),(.int .i64 0),(.str []),AV.aF,AV.aF,AV.aF,AV.aF,AV.aF,AV.aF,(.int .i64 0),(.str []),(.int .i64 0),(.bool false),(.int .i64 0),(.str []),AV.aF,AV.aF,AV.aF,AV.aF,AV.aF,(.bool false),(.bool false),(.str []),(.bool false),(.int .i64 0)])) 58 (.ref (St.next d) 0) (.agg [(.int .i64 y),(.str z),(.str A),(.int .i64 B),(.str C),(.int .i64 D),(.bool E),(.int .i64 F),(.str G),H,I,J,K,L,M,(.int .i64 N),(.str O),(.int .i64 Q),(.bool S),(.int .i64 T),(.str U),V,W,X,Y,Z,(.bool a0),(.bool a1),(.str a2),(.bool a3),(.int .i64 a4)])).bind fun c=>
  (aZ a).bind fun _=>
  (shift a 0).bind fun a5=>
  (loadAt C0.P c 121 a5).bind fun a6=>
  (aZ a).bind fun _=>
  (shift a 1).bind fun a7=>
  (loadAt C0.P c 3 a7).bind fun a8=>
  (dN .i64 a8).bind fun a9=>
  (bA C0.P 121 a6 (.int .i64 a9)).bind fun b0=>
  (shift b0 0).bind fun b1=>
  (loadAt C0.P c 3 b1).bind fun b2=>
  (dN .i64 b2).bind fun b3=>
  if (b3 = 0) then
   (lT R (St.next b) a (St.next d)).bind fun _=>
   (aZ a).bind fun _=>
   (shift a 5).bind fun m=>
   (loadAt C0.P c 42 m).bind fun b4=>
   (dN .i64 b4).bind fun h=>
   if(h=0) then
    (loadAt C0.P c 58 (.ref (St.next d) 0)).bind fun b5=>
    (aH b5).bind fun(b6,b7,b8,b9,c0,c1,c2,c3,c4,c5,c6,c7,c8,c9,d0,d1,d2,d3,d4,d5,d6,d7,d8,d9,e0,e1,e2,e3,e4,e5,e6)=>
    (storeAt C0.P c 58 (.ref (St.next b) 0) (.agg [(.int .i64 b6),(.str b7),(.str b8),(.int .i64 b9),(.str c0),(.int .i64 c1),(.bool c2),(.int .i64 c3),(.str c4),c5,c6,c7,c8,c9,d0,(.int .i64 d1),(.str d2),(.int .i64 d3),(.bool d4),(.int .i64 d5),(.str d6),d7,d8,d9,e0,e1,(.bool e2),(.bool e3),(.str e4),(.bool e5),(.int .i64 e6)])).bind fun n=>
    (loadAt C0.P n 58 (.ref (St.next b) 0)).bind fun e7=>
    (aH e7).bind fun(e8,e9,f0,f1,f2,f3,f4,f5,f6,f7,f8,f9,g0,g1,g2,g3,g4,g5,g6,g7,g8,g9,h0,h1,h2,h3,h4,h5,h6,h7,h8)=>
    some (e8,e9,f0,f1,f2,f3,f4,f5,f6,f7,f8,f9,g0,g1,g2,g3,g4,g5,g6,g7,g8,g9,h0,h1,h2,h3,h4,h5,h6,h7,h8,0,0,n)
   else
    (aZ a).bind fun _=>
    (shift a 4).bind fun o=>
    (loadAt C0.P c 3 o).bind fun h9=>
    (dN .i64 h9).bind fun p=>
    (aZ a).bind fun _=>
    (storeAt C0.P c 58 (.ref (St.next b) 0) (.agg [(.int .i64 0),(.str []),(.str []),(.int .i64 0),(.str []),(.int .i64 0),(.bool false),(.int .i64 0),(.str []),AV.aF,AV.aF,AV.aF,AV.aF,AV.aF,AV.aF,(.int .i64 0),(.str []),(.int .i64 0),(.bool false),(.int .i64 0),(.str []),AV.aF,AV.aF,AV.aF,AV.aF,AV.aF,(.bool false),(.bool false),(.str []),(.bool false),(.int .i64 0)])).bind fun f=>
    (loadAt C0.P f 42 m).bind fun i0=>
    if AV.beq i0 (.int .i64 h)=true then
     (loadAt C0.P f 3 o).bind fun i1=>
     if AV.beq i1 (.int .i64 p)=true then
      (loadAt C0.P f 58 (.ref (St.next b) 0)).bind fun i2=>
      (aH i2).bind fun(i3,i4,i5,i6,i7,i9,j0,j1,j2,j3,j4,j5,j6,j7,j8,j9,k0,k1,k2,k3,k4,k5,k6,k7,k8,k9,l0,l1,l2,l3,l4)=>
      some (i3,i4,i5,i6,i7,i9,j0,j1,j2,j3,j4,j5,j6,j7,j8,j9,k0,k1,k2,k3,k4,k5,k6,k7,k8,k9,l0,l1,l2,l3,l4,p,h,f)
     else
      none
    else
     none
  else
   (kO R (St.next b) a (St.next d) c).bind fun e=>
   (aZ a).bind fun _=>
   (shift a 5).bind fun q=>
   (loadAt C0.P e 42 q).bind fun l5=>
   (dN .i64 l5).bind fun i=>
   if(i=0) then
    (loadAt C0.P e 58 (.ref (St.next d) 0)).bind fun l6=>
    (aH l6).bind fun(l7,l8,l9,m0,m1,m2,m3,m4,m5,m6,m7,m8,m9,n0,n1,n2,n3,n4,n5,n6,n7,n8,n9,o0,o1,o2,o3,o4,o5,o6,o7)=>
    (storeAt C0.P e 58 (.ref (St.next b) 0) (.agg [(.int .i64 l7),(.str l8),(.str l9),(.int .i64 m0),(.str m1),(.int .i64 m2),(.bool m3),(.int .i64 m4),(.str m5),m6,m7,m8,m9,n0,n1,(.int .i64 n2),(.str n3),(.int .i64 n4),(.bool n5),(.int .i64 n6),(.str n7),n8,n9,o0,o1,o2,(.bool o3),(.bool o4),(.str o5),(.bool o6),(.int .i64 o7)])).bind fun r=>
    (loadAt C0.P r 58 (.ref (St.next b) 0)).bind fun o8=>
    (aH o8).bind fun(o9,p0,p1,p2,p3,p4,p5,p6,p7,p8,p9,q0,q1,q2,q3,q4,q5,q6,q7,q8,q9,r0,r1,r2,r3,r4,r5,r6,r7,r8,r9)=>
    some (o9,p0,p1,p2,p3,p4,p5,p6,p7,p8,p9,q0,q1,q2,q3,q4,q5,q6,q7,q8,q9,r0,r1,r2,r3,r4,r5,r6,r7,r8,r9,0,0,r)
   else
    (aZ a).bind fun _=>
    (shift a 4).bind fun s=>
    (loadAt C0.P e 3 s).bind fun s0=>
    (dN .i64 s0).bind fun t=>
    (aZ a).bind fun _=>
    (storeAt C0.P e 58 (.ref (St.next b) 0) (.agg [(.int .i64 0),(.str []),(.str []),(.int .i64 0),(.str []),(.int .i64 0),(.bool false),(.int .i64 0),(.str []),AV.aF,AV.aF,AV.aF,AV.aF,AV.aF,AV.aF,(.int .i64 0),(.str []),(.int .i64 0),(.bool false),(.int .i64 0),(.str []),AV.aF,AV.aF,AV.aF,AV.aF,AV.aF,(.bool false),(.bool false),(.str []),(.bool false),(.int .i64 0)])).bind fun g=>
    (loadAt C0.P g 42 q).bind fun s1=>
    if AV.beq s1 (.int .i64 i)=true then
     (loadAt C0.P g 3 s).bind fun s2=>
     if AV.beq s2 (.int .i64 t)=true then
      (loadAt C0.P g 58 (.ref (St.next b) 0)).bind fun s3=>
      (aH s3).bind fun(s4,s5,s6,s7,s8,s9,t0,t1,t2,t3,t4,t5,t6,t7,t8,t9,u0,u1,u2,u3,u4,u5,u6,u7,u9,v0,v1,v2,v3,v4,v5)=>
      some (s4,s5,s6,s7,s8,s9,t0,t1,t2,t3,t4,t5,t6,t7,t8,t9,u0,u1,u2,u3,u4,u5,u6,u7,u9,v0,v1,v2,v3,v4,v5,t,i,g)
     else
      none
    else
     none
 else
  (storeAt C0.P l 58 (.ref (St.next b) 0) (.agg [(.int .i64 0),(.str []),(.str []),(.int .i64 0),(.str []),(.int .i64 0),(.bool false),(.int .i64 0),(.str []),AV.aF,AV.aF,AV.aF,AV.aF,AV.aF,AV.aF,(.int .i64 0),(.str []),(.int .i64 0),(.bool false),(.int .i64 0),(.str []),AV.aF,AV.aF,AV.aF,AV.aF,AV.aF,(.bool false),(.bool false),(.str []),(.bool false),(.int .i64 0)])).bind fun u=>
  (loadAt C0.P u 58 (.ref (St.next b) 0)).bind fun v6=>
  (aH v6).bind fun(v7,v8,v9,w0,w1,w2,w3,w4,w5,w6,w7,w8,w9,x0,x1,x2,x3,x4,x5,x6,x7,x8,x9,y0,y1,y2,y3,y4,y5,y6,y7)=>
  some (v7,v8,v9,w0,w1,w2,w3,w4,w5,w6,w7,w8,w9,x0,x1,x2,x3,x4,x5,x6,x7,x8,x9,y0,y1,y2,y3,y4,y5,y6,y7,w,k,u)
theorem Dp {R : Nat} (n : Nat) {g : List UInt8} {i : St} {r : Int × List UInt8 × List UInt8 × Int × List UInt8 × Int × Bool × Int × List UInt8 × AV × AV × AV × AV × AV × AV × Int × List UInt8 × Int × Bool × Int × List UInt8 × AV × AV × AV × AV × AV × Bool × Bool × List UInt8 × Bool × Int × Int × Int × St} (h : rK R g i = some r):
 aR (aW C0 bK R (n+24006)) false 33 [(.str g)] i (.tuple [(.agg [.int .i64 r.1,.str r.2.1,.str r.2.2.1,.int .i64 r.2.2.2.1,.str r.2.2.2.2.1,.int .i64 r.2.2.2.2.2.1,.bool r.2.2.2.2.2.2.1,.int .i64 r.2.2.2.2.2.2.2.1,.str r.2.2.2.2.2.2.2.2.1,r.2.2.2.2.2.2.2.2.2.1,r.2.2.2.2.2.2.2.2.2.2.1,r.2.2.2.2.2.2.2.2.2.2.2.1,r.2.2.2.2.2.2.2.2.2.2.2.2.1,r.2.2.2.2.2.2.2.2.2.2.2.2.2.1,r.2.2.2.2.2.2.2.2.2.2.2.2.2.2.1,.int .i64 r.2.2.2.2.2.2.2.2.2.2.2.2.2.2.2.1,.str r.2.2.2.2.2.2.2.2.2.2.2.2.2.2.2.2.1,.int .i64 r.2.2.2.2.2.2.2.2.2.2.2.2.2.2.2.2.2.1,.bool r.2.2.2.2.2.2.2.2.2.2.2.2.2.2.2.2.2.2.1,.int .i64 r.2.2.2.2.2.2.2.2.2.2.2.2.2.2.2.2.2.2.2.1,.str r.2.2.2.2.2.2.2.2.2.2.2.2.2.2.2.2.2.2.2.2.1,r.2.2.2.2.2.2.2.2.2.2.2.2.2.2.2.2.2.2.2.2.2.1,r.2.2.2.2.2.2.2.2.2.2.2.2.2.2.2.2.2.2.2.2.2.2.1,r.2.2.2.2.2.2.2.2.2.2.2.2.2.2.2.2.2.2.2.2.2.2.2.1,r.2.2.2.2.2.2.2.2.2.2.2.2.2.2.2.2.2.2.2.2.2.2.2.2.1,r.2.2.2.2.2.2.2.2.2.2.2.2.2.2.2.2.2.2.2.2.2.2.2.2.2.1,.bool r.2.2.2.2.2.2.2.2.2.2.2.2.2.2.2.2.2.2.2.2.2.2.2.2.2.2.1,.bool r.2.2.2.2.2.2.2.2.2.2.2.2.2.2.2.2.2.2.2.2.2.2.2.2.2.2.2.1,.str r.2.2.2.2.2.2.2.2.2.2.2.2.2.2.2.2.2.2.2.2.2.2.2.2.2.2.2.2.1,.bool r.2.2.2.2.2.2.2.2.2.2.2.2.2.2.2.2.2.2.2.2.2.2.2.2.2.2.2.2.2.1,.int .i64 r.2.2.2.2.2.2.2.2.2.2.2.2.2.2.2.2.2.2.2.2.2.2.2.2.2.2.2.2.2.2.1]),(.int .i64 r.2.2.2.2.2.2.2.2.2.2.2.2.2.2.2.2.2.2.2.2.2.2.2.2.2.2.2.2.2.2.2.1),(.int .i64 r.2.2.2.2.2.2.2.2.2.2.2.2.2.2.2.2.2.2.2.2.2.2.2.2.2.2.2.2.2.2.2.2.1)]) r.2.2.2.2.2.2.2.2.2.2.2.2.2.2.2.2.2.2.2.2.2.2.2.2.2.2.2.2.2.2.2.2.2:=by
 revert h;unfold rK;refine aA fun o z=>?_;obtain⟨j,A,B,C⟩:=o;have q9001:=aG (Gy (n+24002) z) eE
 let q8001:List Hint:=[.run 4,.call (.tuple [j,(.int .i64 A),(.int .i64 B)]) C,.run 8]
 refine aU (fun b=>?_) (fun b=>?_)
 ·refine aA fun _o D=>aA fun o E=>?_
  obtain⟨a,F⟩:=o;refine aA fun o G=>?_;obtain⟨H,I,J,K,L,M,N,O,P,Q,S,T,U,V,W,X,Y,Z,a0,a1,a2,a3,a4,a5,a6,a7,a8,a9,b0,b1,b2,b3⟩:=o;refine aA fun c b4=>aA fun _o b5=>aA fun b6 b7=>aA fun b8 c0=>aA fun _o c1=>aA fun c2 c3=>aA fun E6 c4=>aA fun c5 c6=>?_
  obtain rfl:=bE c6;refine aA fun c7 c8=>aA fun c9 d0=>aA fun E7 d1=>aA fun d2 d3=>?_
  obtain rfl:=bE d3;have q9002:=aG d1<|aG d0<|aG c8<|aG c4<|aG c3<|aG (cB c1)<|aG c0<|aG b7<|aG (cB b5)<|aG (aN b4)<|aG (A5 n G)<|aG (pE E)<|aG (mB (rY D) (A1))<|aG (Ax b) q9001
  let q8002:List Hint:=q8001 ++ [.dec false,.aM,.run 1,.Lx [[j]],.cA a F,.run 2,.call (aP H I J K L M N O P Q S T U V W X Y Z a0 a1 a2 a3 a4 a5 a6 a7 a8 a9 b0 b1 b2) b3,.run 1,.cA AV.undef c,.run 1,.val a,.val b6,.val b8,.run 1,.val a,.val c2,.val (.int .i64 c5),.val c7,.val c9,.val (.int .i64 d2)]
  refine aU (fun d=>?_) (fun d=>?_)
  ·refine aA fun _o d4=>aA fun _o d5=>aA fun k l=>aA fun E8 m=>aA fun p d6=>?_
   obtain rfl:=bE d6;have q9003:=aG m<|aG l<|aG (cB d5)<|aG (yL n c d4)<|aG (Ax d) q9002
   let q8003:List Hint:=q8002 ++ [.dec false,.fT [2,8,9,37] .normal [] c,.run 1,.val a,.val k,.val (.int .i64 p)]
   refine aU (fun e=>?_) (fun e=>?_)
   ·refine aA fun E9 d7=>aA fun o d8=>?_
    obtain⟨d9,e0,e1,e2,e3,e4,e5,e6,e7,e8,e9,f0,f1,f2,f3,f4,f5,f6,f7,f8,f9,g0,g1,g2,g3,g4,g5,g6,g7,g8,g9⟩:=o;obtain rfl:=aI d8;refine aA fun h0 h1=>aA fun F0 h2=>aA fun o h3=>?_
    obtain⟨h4,h5,h6,h7,h8,h9,i0,i1,i2,i3,i4,i5,i6,i7,i9,j0,j1,j2,j3,j4,j5,j6,j7,j8,j9,k0,k1,k2,k3,k4,k5⟩:=o;obtain rfl:=aI h3;intro h;obtain rfl:=b9 h;exact dE (hs:=q8003 ++ [.dec false,.aM,.val (aP d9 e0 e1 e2 e3 e4 e5 e6 e7 e8 e9 f0 f1 f2 f3 f4 f5 f6 f7 f8 f9 g0 g1 g2 g3 g4 g5 g6 g7 g8 g9),.cA AV.undef h0,.run 2,.val (aP h4 h5 h6 h7 h8 h9 i0 i1 i2 i3 i4 i5 i6 i7 i9 j0 j1 j2 j3 j4 j5 j6 j7 j8 j9 k0 k1 k2 k3 k4 k5)]) (by kernel_rfl) (aG h2<|aG (aN h1)<|aG d7<|aG (Ax e) q9003)
   ·refine aA fun _o k6=>aA fun k7 k8=>aA fun F1 k9=>aA fun l0 l1=>?_
    obtain rfl:=bE l1;refine aA fun _o l2=>aA fun l3 l4=>aA fun F2 l5=>?_
    refine aU (fun q=>?_) (fun q=>?_)
    ·refine aA fun F3 l6=>?_;refine aU (fun s=>?_) (fun s=>?_)
     ·refine aA fun F4 l7=>aA fun o l8=>?_
      obtain⟨l9,m0,m1,m2,m3,m4,m5,m6,m7,m8,m9,n0,n1,n2,n3,n4,n5,n6,n7,n8,n9,o0,o1,o2,o3,o4,o5,o6,o7,o8,o9⟩:=o;obtain rfl:=aI l8;intro h;obtain rfl:=b9 h;exact dE (hs:=q8003 ++ [.dec true,.aM,.run 2,.val a,.val k7,.val (.int .i64 l0),.run 1,.val a,.val k,.val (.int .i64 p),.cA AV.undef l3,.run 2,.val (aP l9 m0 m1 m2 m3 m4 m5 m6 m7 m8 m9 n0 n1 n2 n3 n4 n5 n6 n7 n8 n9 o0 o1 o2 o3 o4 o5 o6 o7 o8 o9)]) (by kernel_rfl) (aG l7<|aG (jQ l5 q)<|aG (jQ l6 s)<|aG (aN l4)<|aG m<|aG l<|aG (cB l2)<|aG k9<|aG k8<|aG (cB k6)<|aG (D5 e) q9003)
     ·exact fun h=>nomatch h
    ·exact fun h=>nomatch h
  ·refine aA fun p0 p1=>aA fun _o p2=>aA fun t u=>aA fun F5 v=>aA fun w p3=>?_
   obtain rfl:=bE p3;have q9004:=aG v<|aG u<|aG (cB p2)<|aG (wY n p1)<|aG (D5 d) q9002
   let q8004:List Hint:=q8002 ++ [.dec true,.fT [2,8,9,37] .normal [] p0,.run 1,.val a,.val t,.val (.int .i64 w)]
   refine aU (fun f=>?_) (fun f=>?_)
   ·refine aA fun F6 p4=>aA fun o p5=>?_
    obtain⟨p6,p7,p8,p9,q0,q1,q2,q3,q4,q5,q6,q7,q8,q9,r0,r1,r2,r3,r4,r5,r6,r7,r8,r9,s0,s1,s2,s3,s4,s5,s6⟩:=o;obtain rfl:=aI p5;refine aA fun s7 s8=>aA fun F7 s9=>aA fun o t0=>?_
    obtain⟨t1,t2,t3,t4,t5,t6,t7,t8,t9,u0,u1,u2,u3,u4,u5,u6,u7,u9,v0,v1,v2,v3,v4,v5,v6,v7,v8,v9,w0,w1,w2⟩:=o;obtain rfl:=aI t0;intro h;obtain rfl:=b9 h;exact dE (hs:=q8004 ++ [.dec false,.aM,.val (aP p6 p7 p8 p9 q0 q1 q2 q3 q4 q5 q6 q7 q8 q9 r0 r1 r2 r3 r4 r5 r6 r7 r8 r9 s0 s1 s2 s3 s4 s5 s6),.cA AV.undef s7,.run 2,.val (aP t1 t2 t3 t4 t5 t6 t7 t8 t9 u0 u1 u2 u3 u4 u5 u6 u7 u9 v0 v1 v2 v3 v4 v5 v6 v7 v8 v9 w0 w1 w2)]) (by kernel_rfl) (aG s9<|aG (aN s8)<|aG p4<|aG (Ax f) q9004)
   ·refine aA fun _o w3=>aA fun w4 w5=>aA fun F8 w6=>aA fun w7 w8=>?_
    obtain rfl:=bE w8;refine aA fun _o w9=>aA fun x0 x1=>aA fun F9 x2=>?_
    refine aU (fun x=>?_) (fun x=>?_)
    ·refine aA fun G0 x3=>?_;refine aU (fun y=>?_) (fun y=>?_)
     ·refine aA fun G1 x4=>aA fun o x5=>?_
      obtain⟨x6,x7,x8,x9,y0,y1,y2,y3,y4,y5,y6,y7,y8,y9,z0,z1,z2,z3,z4,z5,z6,z7,z8,z9,A0,A2,A3,A4,A6,A7,A8⟩:=o;obtain rfl:=aI x5;intro h;obtain rfl:=b9 h;exact dE (hs:=q8004 ++ [.dec true,.aM,.run 2,.val a,.val w4,.val (.int .i64 w7),.run 1,.val a,.val t,.val (.int .i64 w),.cA AV.undef x0,.run 2,.val (aP x6 x7 x8 x9 y0 y1 y2 y3 y4 y5 y6 y7 y8 y9 z0 z1 z2 z3 z4 z5 z6 z7 z8 z9 A0 A2 A3 A4 A6 A7 A8)]) (by kernel_rfl) (aG x4<|aG (jQ x2 x)<|aG (jQ x3 y)<|aG (aN x1)<|aG v<|aG u<|aG (cB w9)<|aG w6<|aG w5<|aG (cB w3)<|aG (D5 f) q9004)
     ·exact fun h=>nomatch h
    ·exact fun h=>nomatch h
 ·refine aA fun A9 B0=>aA fun G2 B1=>aA fun o B2=>?_
  obtain⟨B3,B4,B5,B6,B7,B8,B9,C1,C2,C3,C4,C5,C6,C7,C8,C9,D0,D1,D2,D3,D4,D6,D7,D8,D9,E0,E1,E2,E3,E4,E5⟩:=o;obtain rfl:=aI B2;intro h;obtain rfl:=b9 h;exact dE (hs:=q8001 ++ [.dec true,.aM,.run 3,.cA AV.undef A9,.run 2,.val (aP B3 B4 B5 B6 B7 B8 B9 C1 C2 C3 C4 C5 C6 C7 C8 C9 D0 D1 D2 D3 D4 D6 D7 D8 D9 E0 E1 E2 E3 E4 E5)]) (by kernel_rfl) (aG B1<|aG (aN B0)<|aG (D5 b) q9001)
end
end Go.Proofs.YthodfojhbbendaaGreatDoor
end
