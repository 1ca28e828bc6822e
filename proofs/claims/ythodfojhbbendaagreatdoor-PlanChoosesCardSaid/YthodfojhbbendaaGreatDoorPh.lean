/- PlanChooses, part 8 of 11 of its proof (what is proved: whatever the text is, the law answers true; conditions: those each theorem states). Joined and shortened by a program. In order: SynI | SynJ | SynK | SynM | SynN | PnA -/
import Derived.Test.YthodfojhbbendaaGreatDoorPg
import Derived.Lib.ItoaLen
import Derived.Test.YthodfojhbbendaaGreatDoorPf
section
set_option linter.all false
set_option maxRecDepth 100000
set_option maxHeartbeats 4000000
namespace Go.Proofs.YthodfojhbbendaaGreatDoor
open Go Go.Ev
noncomputable section
attribute [local congr] n7 sW
theorem Kj {a b:Nat}:AV.beq (.ref a b) (.ref a b)=true:=by simp[AV.beq]
theorem Ke {z:Z}:(cN z).i=z.i:=by
 unfold cN qD Av
 split
 ·split <;> rfl
 ·rfl
def Eb (ws : List W) (R : Pr) (Rn : Nat) (z : Z) : Option (Ex × Z) := match nA ws (cN z) [45] with
 | (true,z1)=>(R.u z1).bind fun q=>.some (Fs 3 q.1,F8 (gG q.2))
 | (false, z1) => match nA ws z1 [40] with
   | (true,z2)=>(qL ws R Rn 0 z2).bind fun q=>.some (q.1,F8 (oC ws q.2 6 [41]))
   | (false, z2) => match nA ws z2 [91] with
     | (true,z3)=>(D7 ws R Rn [93] Rn [] z3).bind fun q=>.some (.mk 7 [] V0 q.1 [],F8 (gG q.2))
     | (false, z3) => match nA ws z3 [123] with
       | (true,z4)=>(Cz ws R Rn [125] Rn [] [] z4).bind fun q=>.some (.mk 8 [] V0 q.1 q.2.1,F8 (gG q.2.2))
       | (false, z4) => if (wd ws (cN z).i).1 = 1 ∧ z4.e = 0 then (Lt ws Rn z4).bind fun q => .some (.mk 2 q.1 V0 [] [], F8 (gG q.2))
         else(MR ws z4).bind fun q=>.some (q.1,F8 q.2)
theorem OB {ws : List W} {R : dF} {Q : Pr} (W : Wf ws) (HR : Nt ws R Q) {st : St} {p : Nat} {z z' : Z} {e : Ex} {φ : Int × List UInt8 × Int × Bool × Int × List UInt8 × AV × AV × AV × AV × St → Prop}
 (hP:PS ws st p z) (hb:Eb ws Q R.n z=.some (e,z')) (hφ:EP ws st p p e z' φ):T φ (kG R (.ref p 0) st):=by
 have hp:=hP.lt
 unfold kG
 unfold Eb at hb
 refine T.step (Pn Ox) ?_
 repeat(refine T.step (by simp(disch:=(first | ((repeat(first | rw[aB] | rw[aE] | rw[List.length_cons] | rw[List.length_nil])) <;> omega) | (refine(?_:_∧True).1; constructor; simp only[aL, *]; exact True.intro))) only[aX]; try exact rfl) ?_)
 refine T.bind (M3 (ws:=ws) (z:=z) (by repeat' (first | exact hP | refine PS.push ?_ _ | refine PS.put ?_ _ ?_ | ((try simp only[aB,aE]) <;> omega))) fun st1 id h1 k1 hi1 hi2 gid1=>?_)
 simp only[aB] at hi1
 have n_k1:=k1.le; (try simp only[aB,aE] at n_k1)
 have K1:KP p p st st1:=(by repeat' (first | exact KP.trans (by repeat' (first | exact KP.refl | exact KP.refl | refine KP.dX ?_ | refine KP.loc ?_ ?_ | exact Or.inl rfl | exact Or.inr (Or.inl rfl) | ((try simp only[aB,aE]) <;> omega))) k1 | refine KP.dX ?_ | refine KP.loc ?_ ?_ | exact Or.inl rfl | exact Or.inr (Or.inl rfl) | ((try simp only[aB,aE]) <;> omega)))
 have gib1:st1.aS.get st.next=.some (.cells 124 true [.ref p 0]):=by simp(disch:=(first | ((repeat(first | rw[aB] | rw[aE] | rw[List.length_cons] | rw[List.length_nil])) <;> omega) | (refine(?_:_∧True).1; constructor; simp only[aL, *]; exact True.intro))) only[cD,k1.2.1]
 have gr1:st1.aS.get (st.next+1)=.some (.cells 28 true [(.int .i64 0),(.str []),(.int .i64 0),(.bool false),(.int .i64 0),(.str []),AV.aF,AV.aF,AV.aF,AV.aF]):=by simp(disch:=(first | ((repeat(first | rw[aB] | rw[aE] | rw[List.length_cons] | rw[List.length_nil])) <;> omega) | (refine(?_:_∧True).1; constructor; simp only[aL, *]; exact True.intro))) only[cD,k1.2.1]
 have h10:=h1
 obtain⟨x1,a1,t1,u1,hg1,hr1,hi1',hp1⟩:=h1
 repeat(refine T.step (by simp(disch:=(first | ((repeat(first | rw[aB] | rw[aE] | rw[List.length_cons] | rw[List.length_nil])) <;> omega) | (refine(?_:_∧True).1; constructor; simp only[aL, *]; exact True.intro))) only[aX,gib1,hg1,Jh hr1 hi1',Q3]; try exact rfl) ?_)
 have h2:PS ws ((st1.push (.cells 129 true [.int .i64 0,.str [],.int .i64 0])).put st1.next (.cells 129 true [.int .i64 (wd ws (cN z).i).1,.str (wd ws (cN z).i).2.1,.int .i64 (wd ws (cN z).i).2.2])) p (cN z):=(by repeat' (first | exact h10 | refine PS.push ?_ _ | refine PS.put ?_ _ ?_ | ((try simp only[aB,aE]) <;> omega)))
 have K2:KP p p st ((st1.push (.cells 129 true [.int .i64 0,.str [],.int .i64 0])).put st1.next (.cells 129 true [.int .i64 (wd ws (cN z).i).1,.str (wd ws (cN z).i).2.1,.int .i64 (wd ws (cN z).i).2.2])):=(by repeat' (first | exact K1 | exact KP.refl | refine KP.dX ?_ | refine KP.loc ?_ ?_ | exact Or.inl rfl | exact Or.inr (Or.inl rfl) | ((try simp only[aB,aE]) <;> omega)))
 rcases e3:nA ws (cN z) [45] with⟨b3,z1⟩
 rw[e3] at hb
 refine T.bind (As W h2 e3 fun st3 h3 k3=>?_)
 have n_k3:=k3.le; (try simp only[aB,aE] at n_k3)
 have K3:=K2.trans k3
 have gib3:st3.aS.get st.next=.some (.cells 124 true [.ref p 0]):=by simp(disch:=(first | ((repeat(first | rw[aB] | rw[aE] | rw[List.length_cons] | rw[List.length_nil])) <;> omega) | (refine(?_:_∧True).1; constructor; simp only[aL, *]; exact True.intro))) only[cD,k3.2.1,gib1]
 have gr3:st3.aS.get (st.next+1)=.some (.cells 28 true [(.int .i64 0),(.str []),(.int .i64 0),(.bool false),(.int .i64 0),(.str []),AV.aF,AV.aF,AV.aF,AV.aF]):=by simp(disch:=(first | ((repeat(first | rw[aB] | rw[aE] | rw[List.length_cons] | rw[List.length_nil])) <;> omega) | (refine(?_:_∧True).1; constructor; simp only[aL, *]; exact True.intro))) only[cD,k3.2.1,gr1]
 have gid3:st3.aS.get id=.some (.cells 124 true [.ref p 0]):=by simp(disch:=(first | ((repeat(first | rw[aB] | rw[aE] | rw[List.length_cons] | rw[List.length_nil])) <;> omega) | (refine(?_:_∧True).1; constructor; simp only[aL, *]; exact True.intro))) only[cD,k3.2.1,gid1]
 have gw3:st3.aS.get st1.next=.some (.cells 129 true [.int .i64 (wd ws (cN z).i).1,.str (wd ws (cN z).i).2.1,.int .i64 (wd ws (cN z).i).2.2]):=by simp(disch:=(first | ((repeat(first | rw[aB] | rw[aE] | rw[List.length_cons] | rw[List.length_nil])) <;> omega) | (refine(?_:_∧True).1; constructor; simp only[aL, *]; exact True.intro))) only[cD,k3.2.1]
 cases b3 with
 | true =>
   obtain⟨q,hq,hb⟩:=Option.bind_eq_some_iff.1 hb
   obtain⟨x,z2⟩:=q
   obtain⟨rfl,rfl⟩:=Prod.mk.inj (Option.some.inj hb)
   refine T.fA rfl ?_
   repeat(refine T.step (by simp(disch:=(first | ((repeat(first | rw[aB] | rw[aE] | rw[List.length_cons] | rw[List.length_nil])) <;> omega) | (refine(?_:_∧True).1; constructor; simp only[aL, *]; exact True.intro))) only[aX,gib3]; try exact rfl) ?_)
   refine T.bind (HR.u h3 hq fun st4 kv nv hx h4 k4=>?_)
   have n_k4:=k4.le; (try simp only[aB,aE] at n_k4)
   have K4:KP p p st st4:=(by repeat' (first | exact KP.trans (by repeat' (first | exact K3 | exact KP.refl | refine KP.dX ?_ | refine KP.loc ?_ ?_ | exact Or.inl rfl | exact Or.inr (Or.inl rfl) | ((try simp only[aB,aE]) <;> omega))) k4 | refine KP.dX ?_ | refine KP.loc ?_ ?_ | exact Or.inl rfl | exact Or.inr (Or.inl rfl) | ((try simp only[aB,aE]) <;> omega)))
   have gib4:st4.aS.get st.next=.some (.cells 124 true [.ref p 0]):=by simp(disch:=(first | ((repeat(first | rw[aB] | rw[aE] | rw[List.length_cons] | rw[List.length_nil])) <;> omega) | (refine(?_:_∧True).1; constructor; simp only[aL, *]; exact True.intro))) only[cD,k4.2.1,gib3]
   have gr4:st4.aS.get (st.next+1)=.some (.cells 28 true [(.int .i64 0),(.str []),(.int .i64 0),(.bool false),(.int .i64 0),(.str []),AV.aF,AV.aF,AV.aF,AV.aF]):=by simp(disch:=(first | ((repeat(first | rw[aB] | rw[aE] | rw[List.length_cons] | rw[List.length_nil])) <;> omega) | (refine(?_:_∧True).1; constructor; simp only[aL, *]; exact True.intro))) only[cD,k4.2.1,gr3]
   have gid4:st4.aS.get id=.some (.cells 124 true [.ref p 0]):=by simp(disch:=(first | ((repeat(first | rw[aB] | rw[aE] | rw[List.length_cons] | rw[List.length_nil])) <;> omega) | (refine(?_:_∧True).1; constructor; simp only[aL, *]; exact True.intro))) only[cD,k4.2.1,gid3]
   have gw4:st4.aS.get st1.next=.some (.cells 129 true [.int .i64 (wd ws (cN z).i).1,.str (wd ws (cN z).i).2.1,.int .i64 (wd ws (cN z).i).2.2]):=by simp(disch:=(first | ((repeat(first | rw[aB] | rw[aE] | rw[List.length_cons] | rw[List.length_nil])) <;> omega) | (refine(?_:_∧True).1; constructor; simp only[aL, *]; exact True.intro))) only[cD,k4.2.1,gw3]
   obtain⟨o1,o2⟩:=hx.one
   repeat(refine T.step (by simp(disch:=(first | ((repeat(first | rw[aB] | rw[aE] | rw[List.length_cons] | rw[List.length_nil])) <;> omega) | (refine(?_:_∧True).1; constructor; simp only[aL, *]; exact True.intro))) only[aX,gib4]; try exact rfl) ?_)
   refine T.fA Kj ?_
   refine T.step (zJ (P:=C0.P) (t:=26) (v:=.agg (uK x kv nv)) _ rfl (oS hx) (by decide)) ?_
   refine T.step (OM rfl) ?_
   refine T.bind (oU (ws:=ws) (z:=z2) (by repeat' (first | exact h4 | refine PS.push ?_ _ | refine PS.put ?_ _ ?_ | ((try simp only[aB,aE]) <;> omega))) rfl rfl rfl rfl fun st5 h5 k5=>?_)
   have n_k5:=k5.le; (try simp only[aB,aE] at n_k5)
   have K5:KP p p st st5:=(by repeat' (first | exact KP.trans (by repeat' (first | exact K4 | exact KP.refl | refine KP.dX ?_ | refine KP.loc ?_ ?_ | exact Or.inl rfl | exact Or.inr (Or.inl rfl) | ((try simp only[aB,aE]) <;> omega))) k5 | refine KP.dX ?_ | refine KP.loc ?_ ?_ | exact Or.inl rfl | exact Or.inr (Or.inl rfl) | ((try simp only[aB,aE]) <;> omega)))
   have gib5:st5.aS.get st.next=.some (.cells 124 true [.ref p 0]):=by simp(disch:=(first | ((repeat(first | rw[aB] | rw[aE] | rw[List.length_cons] | rw[List.length_nil])) <;> omega) | (refine(?_:_∧True).1; constructor; simp only[aL, *]; exact True.intro))) only[cD,k5.2.1,gib4]
   have gr5:st5.aS.get (st.next+1)=.some (.cells 28 true [(.int .i64 0),(.str []),(.int .i64 0),(.bool false),(.int .i64 0),(.str []),AV.aF,AV.aF,AV.aF,AV.aF]):=by simp(disch:=(first | ((repeat(first | rw[aB] | rw[aE] | rw[List.length_cons] | rw[List.length_nil])) <;> omega) | (refine(?_:_∧True).1; constructor; simp only[aL, *]; exact True.intro))) only[cD,k5.2.1,gr4]
   have gid5:st5.aS.get id=.some (.cells 124 true [.ref p 0]):=by simp(disch:=(first | ((repeat(first | rw[aB] | rw[aE] | rw[List.length_cons] | rw[List.length_nil])) <;> omega) | (refine(?_:_∧True).1; constructor; simp only[aL, *]; exact True.intro))) only[cD,k5.2.1,gid4]
   have gw5:st5.aS.get st1.next=.some (.cells 129 true [.int .i64 (wd ws (cN z).i).1,.str (wd ws (cN z).i).2.1,.int .i64 (wd ws (cN z).i).2.2]):=by simp(disch:=(first | ((repeat(first | rw[aB] | rw[aE] | rw[List.length_cons] | rw[List.length_nil])) <;> omega) | (refine(?_:_∧True).1; constructor; simp only[aL, *]; exact True.intro))) only[cD,k5.2.1,gw4]
   repeat(refine T.step (by simp(disch:=(first | ((repeat(first | rw[aB] | rw[aE] | rw[List.length_cons] | rw[List.length_nil])) <;> omega) | (refine(?_:_∧True).1; constructor; simp only[aL, *]; exact True.intro))) only[aX,gr5]; try exact rfl) ?_)
   refine T.bind (Dd (ws:=ws) (p:=p) (id:=id) (z:=gG z2) (by repeat' (first | exact h5 | refine PS.push ?_ _ | refine PS.put ?_ _ ?_ | ((try simp only[aB,aE]) <;> omega))) ?_ fun st6 h6 k6=>?_)
   ·simp(disch:=(first | ((repeat(first | rw[aB] | rw[aE] | rw[List.length_cons] | rw[List.length_nil])) <;> omega) | (refine(?_:_∧True).1; constructor; simp only[aL, *]; exact True.intro))) only[cD,gid5]
   have n_k6:=k6.le; (try simp only[aB,aE] at n_k6)
   have K6:KP p p st st6:=(by repeat' (first | exact KP.trans (by repeat' (first | exact K5 | exact KP.refl | refine KP.dX ?_ | refine KP.loc ?_ ?_ | exact Or.inl rfl | exact Or.inr (Or.inl rfl) | ((try simp only[aB,aE]) <;> omega))) k6 | refine KP.dX ?_ | refine KP.loc ?_ ?_ | exact Or.inl rfl | exact Or.inr (Or.inl rfl) | ((try simp only[aB,aE]) <;> omega)))
   repeat(refine T.step (by simp(disch:=(first | ((repeat(first | rw[aB] | rw[aE] | rw[List.length_cons] | rw[List.length_nil])) <;> omega) | (refine(?_:_∧True).1; constructor; simp only[aL, *]; exact True.intro))) only[aX,k6.2.1]; try exact rfl) ?_)
   exact T.some (hφ _ _ _ (RX.un hx) h6 K6)
 | false =>
   refine T.gY (by decide) ?_
   simp only at hb
   repeat(refine T.step (by simp(disch:=(first | ((repeat(first | rw[aB] | rw[aE] | rw[List.length_cons] | rw[List.length_nil])) <;> omega) | (refine(?_:_∧True).1; constructor; simp only[aL, *]; exact True.intro))) only[aX,gib3]; try exact rfl) ?_)
   rcases e4:nA ws z1 [40] with⟨b4,z2⟩
   rw[e4] at hb
   refine T.bind (As W (by repeat' (first | exact h3 | refine PS.push ?_ _ | refine PS.put ?_ _ ?_ | ((try simp only[aB,aE]) <;> omega))) e4 fun st4 h4 k4=>?_)
   have n_k4:=k4.le; (try simp only[aB,aE] at n_k4)
   have K4:KP p p st st4:=(by repeat' (first | exact KP.trans (by repeat' (first | exact K3 | exact KP.refl | refine KP.dX ?_ | refine KP.loc ?_ ?_ | exact Or.inl rfl | exact Or.inr (Or.inl rfl) | ((try simp only[aB,aE]) <;> omega))) k4 | refine KP.dX ?_ | refine KP.loc ?_ ?_ | exact Or.inl rfl | exact Or.inr (Or.inl rfl) | ((try simp only[aB,aE]) <;> omega)))
   have gib4:st4.aS.get st.next=.some (.cells 124 true [.ref p 0]):=by simp(disch:=(first | ((repeat(first | rw[aB] | rw[aE] | rw[List.length_cons] | rw[List.length_nil])) <;> omega) | (refine(?_:_∧True).1; constructor; simp only[aL, *]; exact True.intro))) only[cD,k4.2.1,gib3]
   have gr4:st4.aS.get (st.next+1)=.some (.cells 28 true [(.int .i64 0),(.str []),(.int .i64 0),(.bool false),(.int .i64 0),(.str []),AV.aF,AV.aF,AV.aF,AV.aF]):=by simp(disch:=(first | ((repeat(first | rw[aB] | rw[aE] | rw[List.length_cons] | rw[List.length_nil])) <;> omega) | (refine(?_:_∧True).1; constructor; simp only[aL, *]; exact True.intro))) only[cD,k4.2.1,gr3]
   have gid4:st4.aS.get id=.some (.cells 124 true [.ref p 0]):=by simp(disch:=(first | ((repeat(first | rw[aB] | rw[aE] | rw[List.length_cons] | rw[List.length_nil])) <;> omega) | (refine(?_:_∧True).1; constructor; simp only[aL, *]; exact True.intro))) only[cD,k4.2.1,gid3]
   have gw4:st4.aS.get st1.next=.some (.cells 129 true [.int .i64 (wd ws (cN z).i).1,.str (wd ws (cN z).i).2.1,.int .i64 (wd ws (cN z).i).2.2]):=by simp(disch:=(first | ((repeat(first | rw[aB] | rw[aE] | rw[List.length_cons] | rw[List.length_nil])) <;> omega) | (refine(?_:_∧True).1; constructor; simp only[aL, *]; exact True.intro))) only[cD,k4.2.1,gw3]
   cases b4 with
   | true =>
     obtain⟨q,hq,hb⟩:=Option.bind_eq_some_iff.1 hb
     obtain⟨x,z3⟩:=q
     obtain⟨rfl,rfl⟩:=Prod.mk.inj (Option.some.inj hb)
     refine T.fA rfl ?_
     repeat(refine T.step (by simp(disch:=(first | ((repeat(first | rw[aB] | rw[aE] | rw[List.length_cons] | rw[List.length_nil])) <;> omega) | (refine(?_:_∧True).1; constructor; simp only[aL, *]; exact True.intro))) only[aX,gib4]; try exact rfl) ?_)
     refine T.bind (z6 W HR (by decide) (by decide) h4 hq fun st5 kv nv hx h5 k5=>?_)
     have n_k5:=k5.le; (try simp only[aB,aE] at n_k5)
     have K5:KP p p st st5:=(by repeat' (first | exact KP.trans (by repeat' (first | exact K4 | exact KP.refl | refine KP.dX ?_ | refine KP.loc ?_ ?_ | exact Or.inl rfl | exact Or.inr (Or.inl rfl) | ((try simp only[aB,aE]) <;> omega))) k5 | refine KP.dX ?_ | refine KP.loc ?_ ?_ | exact Or.inl rfl | exact Or.inr (Or.inl rfl) | ((try simp only[aB,aE]) <;> omega)))
     have gib5:st5.aS.get st.next=.some (.cells 124 true [.ref p 0]):=by simp(disch:=(first | ((repeat(first | rw[aB] | rw[aE] | rw[List.length_cons] | rw[List.length_nil])) <;> omega) | (refine(?_:_∧True).1; constructor; simp only[aL, *]; exact True.intro))) only[cD,k5.2.1,gib4]
     have gr5:st5.aS.get (st.next+1)=.some (.cells 28 true [(.int .i64 0),(.str []),(.int .i64 0),(.bool false),(.int .i64 0),(.str []),AV.aF,AV.aF,AV.aF,AV.aF]):=by simp(disch:=(first | ((repeat(first | rw[aB] | rw[aE] | rw[List.length_cons] | rw[List.length_nil])) <;> omega) | (refine(?_:_∧True).1; constructor; simp only[aL, *]; exact True.intro))) only[cD,k5.2.1,gr4]
     have gid5:st5.aS.get id=.some (.cells 124 true [.ref p 0]):=by simp(disch:=(first | ((repeat(first | rw[aB] | rw[aE] | rw[List.length_cons] | rw[List.length_nil])) <;> omega) | (refine(?_:_∧True).1; constructor; simp only[aL, *]; exact True.intro))) only[cD,k5.2.1,gid4]
     have gw5:st5.aS.get st1.next=.some (.cells 129 true [.int .i64 (wd ws (cN z).i).1,.str (wd ws (cN z).i).2.1,.int .i64 (wd ws (cN z).i).2.2]):=by simp(disch:=(first | ((repeat(first | rw[aB] | rw[aE] | rw[List.length_cons] | rw[List.length_nil])) <;> omega) | (refine(?_:_∧True).1; constructor; simp only[aL, *]; exact True.intro))) only[cD,k5.2.1,gw4]
     obtain⟨o1,o2⟩:=hx.one
     repeat(refine T.step (by simp(disch:=(first | ((repeat(first | rw[aB] | rw[aE] | rw[List.length_cons] | rw[List.length_nil])) <;> omega) | (refine(?_:_∧True).1; constructor; simp only[aL, *]; exact True.intro))) only[aX,gib5]; try exact rfl) ?_)
     refine T.bind (E1 (ws:=ws) (z:=z3) W (by repeat' (first | exact h5 | refine PS.push ?_ _ | refine PS.put ?_ _ ?_ | ((try simp only[aB,aE]) <;> omega))) fun st6 h6 k6=>?_)
     have n_k6:=k6.le; (try simp only[aB,aE] at n_k6)
     have K6:KP p p st st6:=(by repeat' (first | exact KP.trans (by repeat' (first | exact K5 | exact KP.refl | refine KP.dX ?_ | refine KP.loc ?_ ?_ | exact Or.inl rfl | exact Or.inr (Or.inl rfl) | ((try simp only[aB,aE]) <;> omega))) k6 | refine KP.dX ?_ | refine KP.loc ?_ ?_ | exact Or.inl rfl | exact Or.inr (Or.inl rfl) | ((try simp only[aB,aE]) <;> omega)))
     have gib6:st6.aS.get st.next=.some (.cells 124 true [.ref p 0]):=by simp(disch:=(first | ((repeat(first | rw[aB] | rw[aE] | rw[List.length_cons] | rw[List.length_nil])) <;> omega) | (refine(?_:_∧True).1; constructor; simp only[aL, *]; exact True.intro))) only[cD,k6.2.1,gib5]
     have gr6:st6.aS.get (st.next+1)=.some (.cells 28 true [(.int .i64 0),(.str []),(.int .i64 0),(.bool false),(.int .i64 0),(.str []),AV.aF,AV.aF,AV.aF,AV.aF]):=by simp(disch:=(first | ((repeat(first | rw[aB] | rw[aE] | rw[List.length_cons] | rw[List.length_nil])) <;> omega) | (refine(?_:_∧True).1; constructor; simp only[aL, *]; exact True.intro))) only[cD,k6.2.1,gr5]
     have gid6:st6.aS.get id=.some (.cells 124 true [.ref p 0]):=by simp(disch:=(first | ((repeat(first | rw[aB] | rw[aE] | rw[List.length_cons] | rw[List.length_nil])) <;> omega) | (refine(?_:_∧True).1; constructor; simp only[aL, *]; exact True.intro))) only[cD,k6.2.1,gid5]
     have gw6:st6.aS.get st1.next=.some (.cells 129 true [.int .i64 (wd ws (cN z).i).1,.str (wd ws (cN z).i).2.1,.int .i64 (wd ws (cN z).i).2.2]):=by simp(disch:=(first | ((repeat(first | rw[aB] | rw[aE] | rw[List.length_cons] | rw[List.length_nil])) <;> omega) | (refine(?_:_∧True).1; constructor; simp only[aL, *]; exact True.intro))) only[cD,k6.2.1,gw5]
     have gx6:st6.aS.get st5.next=.some (.cells 28 true (uK x kv nv)):=by simp(disch:=(first | ((repeat(first | rw[aB] | rw[aE] | rw[List.length_cons] | rw[List.length_nil])) <;> omega) | (refine(?_:_∧True).1; constructor; simp only[aL, *]; exact True.intro))) only[cD,k6.2.1]; rfl
     unfold uK at gx6
     repeat(refine T.step (by simp(disch:=(first | ((repeat(first | rw[aB] | rw[aE] | rw[List.length_cons] | rw[List.length_nil])) <;> omega) | (refine(?_:_∧True).1; constructor; simp only[aL, *]; exact True.intro))) only[aX,gx6,gr6]; try exact rfl) ?_)
     repeat(refine T.step (by simp(disch:=(first | ((repeat(first | rw[aB] | rw[aE] | rw[List.length_cons] | rw[List.length_nil])) <;> omega) | (refine(?_:_∧True).1; constructor; simp only[aL, *]; exact True.intro))) only[aX,gr6]; try exact rfl) ?_)
     refine T.bind (Dd (ws:=ws) (p:=p) (id:=id) (z:=oC ws z3 6 [41]) (by repeat' (first | exact h6 | refine PS.push ?_ _ | refine PS.put ?_ _ ?_ | ((try simp only[aB,aE]) <;> omega))) ?_ fun st7 h7 k7=>?_)
     ·simp(disch:=(first | ((repeat(first | rw[aB] | rw[aE] | rw[List.length_cons] | rw[List.length_nil])) <;> omega) | (refine(?_:_∧True).1; constructor; simp only[aL, *]; exact True.intro))) only[cD,gid6]
     have n_k7:=k7.le; (try simp only[aB,aE] at n_k7)
     have K7:KP p p st st7:=(by repeat' (first | exact KP.trans (by repeat' (first | exact K6 | exact KP.refl | refine KP.dX ?_ | refine KP.loc ?_ ?_ | exact Or.inl rfl | exact Or.inr (Or.inl rfl) | ((try simp only[aB,aE]) <;> omega))) k7 | refine KP.dX ?_ | refine KP.loc ?_ ?_ | exact Or.inl rfl | exact Or.inr (Or.inl rfl) | ((try simp only[aB,aE]) <;> omega)))
     repeat(refine T.step (by simp(disch:=(first | ((repeat(first | rw[aB] | rw[aE] | rw[List.length_cons] | rw[List.length_nil])) <;> omega) | (refine(?_:_∧True).1; constructor; simp only[aL, *]; exact True.intro))) only[aX,k7.2.1]; try exact rfl) ?_)
     exact T.some (hφ _ _ _ hx h7 K7)
   | false =>
     refine T.gY (by decide) ?_
     simp only at hb
     repeat(refine T.step (by simp(disch:=(first | ((repeat(first | rw[aB] | rw[aE] | rw[List.length_cons] | rw[List.length_nil])) <;> omega) | (refine(?_:_∧True).1; constructor; simp only[aL, *]; exact True.intro))) only[aX,gib4]; try exact rfl) ?_)
     rcases e5:nA ws z2 [91] with⟨b5,z3⟩
     rw[e5] at hb
     refine T.bind (As W (by repeat' (first | exact h4 | refine PS.push ?_ _ | refine PS.put ?_ _ ?_ | ((try simp only[aB,aE]) <;> omega))) e5 fun st5 h5 k5=>?_)
     have n_k5:=k5.le; (try simp only[aB,aE] at n_k5)
     have K5:KP p p st st5:=(by repeat' (first | exact KP.trans (by repeat' (first | exact K4 | exact KP.refl | refine KP.dX ?_ | refine KP.loc ?_ ?_ | exact Or.inl rfl | exact Or.inr (Or.inl rfl) | ((try simp only[aB,aE]) <;> omega))) k5 | refine KP.dX ?_ | refine KP.loc ?_ ?_ | exact Or.inl rfl | exact Or.inr (Or.inl rfl) | ((try simp only[aB,aE]) <;> omega)))
     have gib5:st5.aS.get st.next=.some (.cells 124 true [.ref p 0]):=by simp(disch:=(first | ((repeat(first | rw[aB] | rw[aE] | rw[List.length_cons] | rw[List.length_nil])) <;> omega) | (refine(?_:_∧True).1; constructor; simp only[aL, *]; exact True.intro))) only[cD,k5.2.1,gib4]
     have gr5:st5.aS.get (st.next+1)=.some (.cells 28 true [(.int .i64 0),(.str []),(.int .i64 0),(.bool false),(.int .i64 0),(.str []),AV.aF,AV.aF,AV.aF,AV.aF]):=by simp(disch:=(first | ((repeat(first | rw[aB] | rw[aE] | rw[List.length_cons] | rw[List.length_nil])) <;> omega) | (refine(?_:_∧True).1; constructor; simp only[aL, *]; exact True.intro))) only[cD,k5.2.1,gr4]
     have gid5:st5.aS.get id=.some (.cells 124 true [.ref p 0]):=by simp(disch:=(first | ((repeat(first | rw[aB] | rw[aE] | rw[List.length_cons] | rw[List.length_nil])) <;> omega) | (refine(?_:_∧True).1; constructor; simp only[aL, *]; exact True.intro))) only[cD,k5.2.1,gid4]
     have gw5:st5.aS.get st1.next=.some (.cells 129 true [.int .i64 (wd ws (cN z).i).1,.str (wd ws (cN z).i).2.1,.int .i64 (wd ws (cN z).i).2.2]):=by simp(disch:=(first | ((repeat(first | rw[aB] | rw[aE] | rw[List.length_cons] | rw[List.length_nil])) <;> omega) | (refine(?_:_∧True).1; constructor; simp only[aL, *]; exact True.intro))) only[cD,k5.2.1,gw4]
     cases b5 with
     | true =>
       obtain⟨q,hq,hb⟩:=Option.bind_eq_some_iff.1 hb
       obtain⟨l,z4⟩:=q
       obtain⟨rfl,rfl⟩:=Prod.mk.inj (Option.some.inj hb)
       refine T.fA rfl ?_
       repeat(refine T.step (by simp(disch:=(first | ((repeat(first | rw[aB] | rw[aE] | rw[List.length_cons] | rw[List.length_nil])) <;> omega) | (refine(?_:_∧True).1; constructor; simp only[aL, *]; exact True.intro))) only[aX,gib5]; try exact rfl) ?_)
       unfold dS dC
       refine T.bind (T.bind (T.bind (Dv W HR (st0:=st5) (p:=p) (ib:=st.next) (out':=l) (z':=z4) (by omega) (by omega) (by omega) gib5 (fun st6 x kcs hS6 hE6 hf6 h6 k6=>?_) R.n h5 KP.refl (Sl.nil _ _) AQ.nil (fun id hi=>hi.elim) hq)))
       refine T.some ?_
       refine T.some ?_
       have n_k6:=k6.le; (try simp only[aB,aE] at n_k6)
       have K6:KP p p st st6:=(by repeat' (first | exact KP.trans (by repeat' (first | exact K5 | exact KP.refl | refine KP.dX ?_ | refine KP.loc ?_ ?_ | exact Or.inl rfl | exact Or.inr (Or.inl rfl) | ((try simp only[aB,aE]) <;> omega))) k6 | refine KP.dX ?_ | refine KP.loc ?_ ?_ | exact Or.inl rfl | exact Or.inr (Or.inl rfl) | ((try simp only[aB,aE]) <;> omega)))
       have gib6:st6.aS.get st.next=.some (.cells 124 true [.ref p 0]):=by simp(disch:=(first | ((repeat(first | rw[aB] | rw[aE] | rw[List.length_cons] | rw[List.length_nil])) <;> omega) | (refine(?_:_∧True).1; constructor; simp only[aL, *]; exact True.intro))) only[cD,k6.2.1,gib5]
       have gr6:st6.aS.get (st.next+1)=.some (.cells 28 true [(.int .i64 0),(.str []),(.int .i64 0),(.bool false),(.int .i64 0),(.str []),AV.aF,AV.aF,AV.aF,AV.aF]):=by simp(disch:=(first | ((repeat(first | rw[aB] | rw[aE] | rw[List.length_cons] | rw[List.length_nil])) <;> omega) | (refine(?_:_∧True).1; constructor; simp only[aL, *]; exact True.intro))) only[cD,k6.2.1,gr5]
       have gid6:st6.aS.get id=.some (.cells 124 true [.ref p 0]):=by simp(disch:=(first | ((repeat(first | rw[aB] | rw[aE] | rw[List.length_cons] | rw[List.length_nil])) <;> omega) | (refine(?_:_∧True).1; constructor; simp only[aL, *]; exact True.intro))) only[cD,k6.2.1,gid5]
       have gw6:st6.aS.get st1.next=.some (.cells 129 true [.int .i64 (wd ws (cN z).i).1,.str (wd ws (cN z).i).2.1,.int .i64 (wd ws (cN z).i).2.2]):=by simp(disch:=(first | ((repeat(first | rw[aB] | rw[aE] | rw[List.length_cons] | rw[List.length_nil])) <;> omega) | (refine(?_:_∧True).1; constructor; simp only[aL, *]; exact True.intro))) only[cD,k6.2.1,gw5]
       have o1:=Sl.one hS6
       refine T.step (OM o1) ?_
       have hx:RX (.mk 7 [] V0 l []) x .aF:=RX.mk hE6 hS6.row (.inl ⟨rfl,rfl⟩)
       repeat(refine T.step (by simp(disch:=(first | ((repeat(first | rw[aB] | rw[aE] | rw[List.length_cons] | rw[List.length_nil])) <;> omega) | (refine(?_:_∧True).1; constructor; simp only[aL, *]; exact True.intro))) only[aX,gib6]; try exact rfl) ?_)
       refine T.bind (oU (ws:=ws) (z:=z4) (by repeat' (first | exact h6 | refine PS.push ?_ _ | refine PS.put ?_ _ ?_ | ((try simp only[aB,aE]) <;> omega))) rfl rfl o1 rfl fun st7 h7 k7=>?_)
       have n_k7:=k7.le; (try simp only[aB,aE] at n_k7)
       have K7:KP p p st st7:=(by repeat' (first | exact KP.trans (by repeat' (first | exact K6 | exact KP.refl | refine KP.dX ?_ | refine KP.loc ?_ ?_ | exact Or.inl rfl | exact Or.inr (Or.inl rfl) | ((try simp only[aB,aE]) <;> omega))) k7 | refine KP.dX ?_ | refine KP.loc ?_ ?_ | exact Or.inl rfl | exact Or.inr (Or.inl rfl) | ((try simp only[aB,aE]) <;> omega)))
       have gib7:st7.aS.get st.next=.some (.cells 124 true [.ref p 0]):=by simp(disch:=(first | ((repeat(first | rw[aB] | rw[aE] | rw[List.length_cons] | rw[List.length_nil])) <;> omega) | (refine(?_:_∧True).1; constructor; simp only[aL, *]; exact True.intro))) only[cD,k7.2.1,gib6]
       have gr7:st7.aS.get (st.next+1)=.some (.cells 28 true [(.int .i64 0),(.str []),(.int .i64 0),(.bool false),(.int .i64 0),(.str []),AV.aF,AV.aF,AV.aF,AV.aF]):=by simp(disch:=(first | ((repeat(first | rw[aB] | rw[aE] | rw[List.length_cons] | rw[List.length_nil])) <;> omega) | (refine(?_:_∧True).1; constructor; simp only[aL, *]; exact True.intro))) only[cD,k7.2.1,gr6]
       have gid7:st7.aS.get id=.some (.cells 124 true [.ref p 0]):=by simp(disch:=(first | ((repeat(first | rw[aB] | rw[aE] | rw[List.length_cons] | rw[List.length_nil])) <;> omega) | (refine(?_:_∧True).1; constructor; simp only[aL, *]; exact True.intro))) only[cD,k7.2.1,gid6]
       have gw7:st7.aS.get st1.next=.some (.cells 129 true [.int .i64 (wd ws (cN z).i).1,.str (wd ws (cN z).i).2.1,.int .i64 (wd ws (cN z).i).2.2]):=by simp(disch:=(first | ((repeat(first | rw[aB] | rw[aE] | rw[List.length_cons] | rw[List.length_nil])) <;> omega) | (refine(?_:_∧True).1; constructor; simp only[aL, *]; exact True.intro))) only[cD,k7.2.1,gw6]
       repeat(refine T.step (by simp(disch:=(first | ((repeat(first | rw[aB] | rw[aE] | rw[List.length_cons] | rw[List.length_nil])) <;> omega) | (refine(?_:_∧True).1; constructor; simp only[aL, *]; exact True.intro))) only[aX,gr7]; try exact rfl) ?_)
       refine T.bind (Dd (ws:=ws) (p:=p) (id:=id) (z:=gG z4) (by repeat' (first | exact h7 | refine PS.push ?_ _ | refine PS.put ?_ _ ?_ | ((try simp only[aB,aE]) <;> omega))) ?_ fun st8 h8 k8=>?_)
       ·simp(disch:=(first | ((repeat(first | rw[aB] | rw[aE] | rw[List.length_cons] | rw[List.length_nil])) <;> omega) | (refine(?_:_∧True).1; constructor; simp only[aL, *]; exact True.intro))) only[cD,gid7]
       have n_k8:=k8.le; (try simp only[aB,aE] at n_k8)
       have K8:KP p p st st8:=(by repeat' (first | exact KP.trans (by repeat' (first | exact K7 | exact KP.refl | refine KP.dX ?_ | refine KP.loc ?_ ?_ | exact Or.inl rfl | exact Or.inr (Or.inl rfl) | ((try simp only[aB,aE]) <;> omega))) k8 | refine KP.dX ?_ | refine KP.loc ?_ ?_ | exact Or.inl rfl | exact Or.inr (Or.inl rfl) | ((try simp only[aB,aE]) <;> omega)))
       repeat(refine T.step (by simp(disch:=(first | ((repeat(first | rw[aB] | rw[aE] | rw[List.length_cons] | rw[List.length_nil])) <;> omega) | (refine(?_:_∧True).1; constructor; simp only[aL, *]; exact True.intro))) only[aX,k8.2.1]; try exact rfl) ?_)
       exact T.some (hφ _ _ _ hx h8 K8)
     | false =>
       refine T.gY (by decide) ?_
       simp only at hb
       repeat(refine T.step (by simp(disch:=(first | ((repeat(first | rw[aB] | rw[aE] | rw[List.length_cons] | rw[List.length_nil])) <;> omega) | (refine(?_:_∧True).1; constructor; simp only[aL, *]; exact True.intro))) only[aX,gib5]; try exact rfl) ?_)
       rcases e6:nA ws z3 [123] with⟨b6,z4⟩
       rw[e6] at hb
       refine T.bind (As W (by repeat' (first | exact h5 | refine PS.push ?_ _ | refine PS.put ?_ _ ?_ | ((try simp only[aB,aE]) <;> omega))) e6 fun st6 h6 k6=>?_)
       have n_k6:=k6.le; (try simp only[aB,aE] at n_k6)
       have K6:KP p p st st6:=(by repeat' (first | exact KP.trans (by repeat' (first | exact K5 | exact KP.refl | refine KP.dX ?_ | refine KP.loc ?_ ?_ | exact Or.inl rfl | exact Or.inr (Or.inl rfl) | ((try simp only[aB,aE]) <;> omega))) k6 | refine KP.dX ?_ | refine KP.loc ?_ ?_ | exact Or.inl rfl | exact Or.inr (Or.inl rfl) | ((try simp only[aB,aE]) <;> omega)))
       have gib6:st6.aS.get st.next=.some (.cells 124 true [.ref p 0]):=by simp(disch:=(first | ((repeat(first | rw[aB] | rw[aE] | rw[List.length_cons] | rw[List.length_nil])) <;> omega) | (refine(?_:_∧True).1; constructor; simp only[aL, *]; exact True.intro))) only[cD,k6.2.1,gib5]
       have gr6:st6.aS.get (st.next+1)=.some (.cells 28 true [(.int .i64 0),(.str []),(.int .i64 0),(.bool false),(.int .i64 0),(.str []),AV.aF,AV.aF,AV.aF,AV.aF]):=by simp(disch:=(first | ((repeat(first | rw[aB] | rw[aE] | rw[List.length_cons] | rw[List.length_nil])) <;> omega) | (refine(?_:_∧True).1; constructor; simp only[aL, *]; exact True.intro))) only[cD,k6.2.1,gr5]
       have gid6:st6.aS.get id=.some (.cells 124 true [.ref p 0]):=by simp(disch:=(first | ((repeat(first | rw[aB] | rw[aE] | rw[List.length_cons] | rw[List.length_nil])) <;> omega) | (refine(?_:_∧True).1; constructor; simp only[aL, *]; exact True.intro))) only[cD,k6.2.1,gid5]
       have gw6:st6.aS.get st1.next=.some (.cells 129 true [.int .i64 (wd ws (cN z).i).1,.str (wd ws (cN z).i).2.1,.int .i64 (wd ws (cN z).i).2.2]):=by simp(disch:=(first | ((repeat(first | rw[aB] | rw[aE] | rw[List.length_cons] | rw[List.length_nil])) <;> omega) | (refine(?_:_∧True).1; constructor; simp only[aL, *]; exact True.intro))) only[cD,k6.2.1,gw5]
       cases b6 with
       | true =>
         obtain⟨q,hq,hb⟩:=Option.bind_eq_some_iff.1 hb
         obtain⟨l,names,z5⟩:=q
         obtain⟨rfl,rfl⟩:=Prod.mk.inj (Option.some.inj hb)
         refine T.fA rfl ?_
         repeat(refine T.step (by simp(disch:=(first | ((repeat(first | rw[aB] | rw[aE] | rw[List.length_cons] | rw[List.length_nil])) <;> omega) | (refine(?_:_∧True).1; constructor; simp only[aL, *]; exact True.intro))) only[aX,gib6]; try exact rfl) ?_)
         have h7:PS ws (((st6.push (.cells 22 true [AV.aF])).push (.cells 28 true [(.int .i64 0),(.str []),(.int .i64 0),(.bool false),(.int .i64 0),(.str []),AV.aF,AV.aF,AV.aF,AV.aF])).put (st6.next+1) (.cells 28 true [(.int .i64 8),(.str []),(.int .i64 0),(.bool false),(.int .i64 0),(.str []),AV.aF,AV.aF,AV.aF,AV.aF])) p z4:=(by repeat' (first | exact h6 | refine PS.push ?_ _ | refine PS.put ?_ _ ?_ | ((try simp only[aB,aE]) <;> omega)))
         have K7:KP p p st (((st6.push (.cells 22 true [AV.aF])).push (.cells 28 true [(.int .i64 0),(.str []),(.int .i64 0),(.bool false),(.int .i64 0),(.str []),AV.aF,AV.aF,AV.aF,AV.aF])).put (st6.next+1) (.cells 28 true [(.int .i64 8),(.str []),(.int .i64 0),(.bool false),(.int .i64 0),(.str []),AV.aF,AV.aF,AV.aF,AV.aF])):=(by repeat' (first | exact K6 | exact KP.refl | refine KP.dX ?_ | refine KP.loc ?_ ?_ | exact Or.inl rfl | exact Or.inr (Or.inl rfl) | ((try simp only[aB,aE]) <;> omega)))
         have gib7:(((st6.push (.cells 22 true [AV.aF])).push (.cells 28 true [(.int .i64 0),(.str []),(.int .i64 0),(.bool false),(.int .i64 0),(.str []),AV.aF,AV.aF,AV.aF,AV.aF])).put (st6.next+1) (.cells 28 true [(.int .i64 8),(.str []),(.int .i64 0),(.bool false),(.int .i64 0),(.str []),AV.aF,AV.aF,AV.aF,AV.aF])).aS.get st.next=.some (.cells 124 true [.ref p 0]):=by simp(disch:=(first | ((repeat(first | rw[aB] | rw[aE] | rw[List.length_cons] | rw[List.length_nil])) <;> omega) | (refine(?_:_∧True).1; constructor; simp only[aL, *]; exact True.intro))) only[cD,gib6]
         have gd7:(((st6.push (.cells 22 true [AV.aF])).push (.cells 28 true [(.int .i64 0),(.str []),(.int .i64 0),(.bool false),(.int .i64 0),(.str []),AV.aF,AV.aF,AV.aF,AV.aF])).put (st6.next+1) (.cells 28 true [(.int .i64 8),(.str []),(.int .i64 0),(.bool false),(.int .i64 0),(.str []),AV.aF,AV.aF,AV.aF,AV.aF])).aS.get st6.next=.some (.cells 22 true [.aF]):=by simp(disch:=(first | ((repeat(first | rw[aB] | rw[aE] | rw[List.length_cons] | rw[List.length_nil])) <;> omega) | (refine(?_:_∧True).1; constructor; simp only[aL, *]; exact True.intro))) only[cD]
         unfold dQ dB
         refine T.bind (T.bind (T.bind (E3 W HR (st0:=((st6.push (.cells 22 true [AV.aF])).push (.cells 28 true [(.int .i64 0),(.str []),(.int .i64 0),(.bool false),(.int .i64 0),(.str []),AV.aF,AV.aF,AV.aF,AV.aF])).put (st6.next+1) (.cells 28 true [(.int .i64 8),(.str []),(.int .i64 0),(.bool false),(.int .i64 0),(.str []),AV.aF,AV.aF,AV.aF,AV.aF])) (p:=p) (ib:=st.next) (dn:=st6.next) (out':=l) (names':=names) (z':=z5) (by((try simp only[aB,aE]) <;> omega)) (by((try simp only[aB,aE]) <;> omega)) (by omega) (by omega) gib7 (by((try simp only[aB,aE]) <;> omega)) (by omega) (fun st8 x kcs nv hS8 hE8 hd8 hN8 h8 k8=>?_) R.n h7 KP.refl (Sl.nil _ _) AQ.nil (fun id hi=>hi.elim) gd7 (names:=[]) (Sl.nil _ _) (fun id hi=>hi.elim) (fun id hi=>hi.elim) hq)))
         refine T.some ?_
         refine T.some ?_
         have n_k8:=k8.le; (try simp only[aB,aE] at n_k8)
         have gib8:st8.aS.get st.next=.some (.cells 124 true [.ref p 0]):=by simp(disch:=(first | ((repeat(first | rw[aB] | rw[aE] | rw[List.length_cons] | rw[List.length_nil])) <;> omega) | (refine(?_:_∧True).1; constructor; simp only[aL, *]; exact True.intro))) only[cD,k8.2.1,gib7]
         have gr8:st8.aS.get (st.next+1)=.some (.cells 28 true [(.int .i64 0),(.str []),(.int .i64 0),(.bool false),(.int .i64 0),(.str []),AV.aF,AV.aF,AV.aF,AV.aF]):=by simp(disch:=(first | ((repeat(first | rw[aB] | rw[aE] | rw[List.length_cons] | rw[List.length_nil])) <;> omega) | (refine(?_:_∧True).1; constructor; simp only[aL, *]; exact True.intro))) only[cD,k8.2.1,gr6]
         have gid8:st8.aS.get id=.some (.cells 124 true [.ref p 0]):=by simp(disch:=(first | ((repeat(first | rw[aB] | rw[aE] | rw[List.length_cons] | rw[List.length_nil])) <;> omega) | (refine(?_:_∧True).1; constructor; simp only[aL, *]; exact True.intro))) only[cD,k8.2.1,gid6]
         have ge8:st8.aS.get (st6.next+1)=.some (.cells 28 true [(.int .i64 8),(.str []),(.int .i64 0),(.bool false),(.int .i64 0),(.str []),AV.aF,AV.aF,AV.aF,AV.aF]):=by simp(disch:=(first | ((repeat(first | rw[aB] | rw[aE] | rw[List.length_cons] | rw[List.length_nil])) <;> omega) | (refine(?_:_∧True).1; constructor; simp only[aL, *]; exact True.intro))) only[cD,k8.2.1]
         have K8:KP p p st st8:=⟨by omega,fun i h1 h2 h3=>(k8.get (by((try simp only[aB,aE]) <;> omega)) h2 (by omega)).trans (K7.get h1 h2 h3),k8.2.2.trans K7.2.2⟩
         have o1:=Sl.one hS8
         have o2:=Sl.one hN8
         have hx:RX (.mk 8 [] V0 l names) x nv:=RX.mk hE8 hS8.row hN8.row
         repeat(refine T.step (by simp(disch:=(first | ((repeat(first | rw[aB] | rw[aE] | rw[List.length_cons] | rw[List.length_nil])) <;> omega) | (refine(?_:_∧True).1; constructor; simp only[aL, *]; exact True.intro))) only[aX,ge8,hd8,gib8,Qj o1,Qj o2]; try exact rfl) ?_)
         refine T.bind (oU (ws:=ws) (z:=z5) (by repeat' (first | exact h8 | refine PS.push ?_ _ | refine PS.put ?_ _ ?_ | ((try simp only[aB,aE]) <;> omega))) rfl rfl o1 o2 fun st9 h9 k9=>?_)
         have n_k9:=k9.le; (try simp only[aB,aE] at n_k9)
         have K9:KP p p st st9:=(by repeat' (first | exact KP.trans (by repeat' (first | exact K8 | exact KP.refl | refine KP.dX ?_ | refine KP.loc ?_ ?_ | exact Or.inl rfl | exact Or.inr (Or.inl rfl) | ((try simp only[aB,aE]) <;> omega))) k9 | refine KP.dX ?_ | refine KP.loc ?_ ?_ | exact Or.inl rfl | exact Or.inr (Or.inl rfl) | ((try simp only[aB,aE]) <;> omega)))
         have gr9:st9.aS.get (st.next+1)=.some (.cells 28 true [(.int .i64 0),(.str []),(.int .i64 0),(.bool false),(.int .i64 0),(.str []),AV.aF,AV.aF,AV.aF,AV.aF]):=by simp(disch:=(first | ((repeat(first | rw[aB] | rw[aE] | rw[List.length_cons] | rw[List.length_nil])) <;> omega) | (refine(?_:_∧True).1; constructor; simp only[aL, *]; exact True.intro))) only[cD,k9.2.1,gr8]
         have gid9:st9.aS.get id=.some (.cells 124 true [.ref p 0]):=by simp(disch:=(first | ((repeat(first | rw[aB] | rw[aE] | rw[List.length_cons] | rw[List.length_nil])) <;> omega) | (refine(?_:_∧True).1; constructor; simp only[aL, *]; exact True.intro))) only[cD,k9.2.1,gid8]
         repeat(refine T.step (by simp(disch:=(first | ((repeat(first | rw[aB] | rw[aE] | rw[List.length_cons] | rw[List.length_nil])) <;> omega) | (refine(?_:_∧True).1; constructor; simp only[aL, *]; exact True.intro))) only[aX,gr9]; try exact rfl) ?_)
         refine T.bind (Dd (ws:=ws) (p:=p) (id:=id) (z:=gG z5) (by repeat' (first | exact h9 | refine PS.push ?_ _ | refine PS.put ?_ _ ?_ | ((try simp only[aB,aE]) <;> omega))) ?_ fun st10 h10 k10=>?_)
         ·simp(disch:=(first | ((repeat(first | rw[aB] | rw[aE] | rw[List.length_cons] | rw[List.length_nil])) <;> omega) | (refine(?_:_∧True).1; constructor; simp only[aL, *]; exact True.intro))) only[cD,gid9]
         have n_k10:=k10.le; (try simp only[aB,aE] at n_k10)
         have K10:KP p p st st10:=(by repeat' (first | exact KP.trans (by repeat' (first | exact K9 | exact KP.refl | refine KP.dX ?_ | refine KP.loc ?_ ?_ | exact Or.inl rfl | exact Or.inr (Or.inl rfl) | ((try simp only[aB,aE]) <;> omega))) k10 | refine KP.dX ?_ | refine KP.loc ?_ ?_ | exact Or.inl rfl | exact Or.inr (Or.inl rfl) | ((try simp only[aB,aE]) <;> omega)))
         repeat(refine T.step (by simp(disch:=(first | ((repeat(first | rw[aB] | rw[aE] | rw[List.length_cons] | rw[List.length_nil])) <;> omega) | (refine(?_:_∧True).1; constructor; simp only[aL, *]; exact True.intro))) only[aX,k10.2.1]; try exact rfl) ?_)
         exact T.some (hφ _ _ _ hx h10 K10)
       | false =>
         refine T.gY (by decide) ?_
         simp only at hb
         have h60:=h6
         obtain⟨x6,a6,t6,u6,hg6,hr6,hi6,hp6⟩:=h6
         repeat(refine T.step (by simp(disch:=(first | ((repeat(first | rw[aB] | rw[aE] | rw[List.length_cons] | rw[List.length_nil])) <;> omega) | (refine(?_:_∧True).1; constructor; simp only[aL, *]; exact True.intro))) only[aX,gw6]; try exact rfl) ?_)
         by_cases hk:(wd ws (cN z).i).1=1
         ·refine T.fA hk ?_
          repeat(refine T.step (by simp(disch:=(first | ((repeat(first | rw[aB] | rw[aE] | rw[List.length_cons] | rw[List.length_nil])) <;> omega) | (refine(?_:_∧True).1; constructor; simp only[aL, *]; exact True.intro))) only[aX,gib6,hg6]; try exact rfl) ?_)
          by_cases he:z4.e=0
          ·rw[if_pos ⟨hk,he⟩] at hb
           obtain⟨q,hq,hb⟩:=Option.bind_eq_some_iff.1 hb
           obtain⟨s,z5⟩:=q
           obtain⟨rfl,rfl⟩:=Prod.mk.inj (Option.some.inj hb)
           refine T.fA he ?_
           refine T.bind (Ow W h60 hq fun st7 h7 k7=>?_)
           have n_k7:=k7.le; (try simp only[aB,aE] at n_k7)
           have K7:KP p p st st7:=(by repeat' (first | exact KP.trans (by repeat' (first | exact K6 | exact KP.refl | refine KP.dX ?_ | refine KP.loc ?_ ?_ | exact Or.inl rfl | exact Or.inr (Or.inl rfl) | ((try simp only[aB,aE]) <;> omega))) k7 | refine KP.dX ?_ | refine KP.loc ?_ ?_ | exact Or.inl rfl | exact Or.inr (Or.inl rfl) | ((try simp only[aB,aE]) <;> omega)))
           have gib7:st7.aS.get st.next=.some (.cells 124 true [.ref p 0]):=by simp(disch:=(first | ((repeat(first | rw[aB] | rw[aE] | rw[List.length_cons] | rw[List.length_nil])) <;> omega) | (refine(?_:_∧True).1; constructor; simp only[aL, *]; exact True.intro))) only[cD,k7.2.1,gib6]
           have gr7:st7.aS.get (st.next+1)=.some (.cells 28 true [(.int .i64 0),(.str []),(.int .i64 0),(.bool false),(.int .i64 0),(.str []),AV.aF,AV.aF,AV.aF,AV.aF]):=by simp(disch:=(first | ((repeat(first | rw[aB] | rw[aE] | rw[List.length_cons] | rw[List.length_nil])) <;> omega) | (refine(?_:_∧True).1; constructor; simp only[aL, *]; exact True.intro))) only[cD,k7.2.1,gr6]
           have gid7:st7.aS.get id=.some (.cells 124 true [.ref p 0]):=by simp(disch:=(first | ((repeat(first | rw[aB] | rw[aE] | rw[List.length_cons] | rw[List.length_nil])) <;> omega) | (refine(?_:_∧True).1; constructor; simp only[aL, *]; exact True.intro))) only[cD,k7.2.1,gid6]
           have gw7:st7.aS.get st1.next=.some (.cells 129 true [.int .i64 (wd ws (cN z).i).1,.str (wd ws (cN z).i).2.1,.int .i64 (wd ws (cN z).i).2.2]):=by simp(disch:=(first | ((repeat(first | rw[aB] | rw[aE] | rw[List.length_cons] | rw[List.length_nil])) <;> omega) | (refine(?_:_∧True).1; constructor; simp only[aL, *]; exact True.intro))) only[cD,k7.2.1,gw6]
           repeat(refine T.step (by simp(disch:=(first | ((repeat(first | rw[aB] | rw[aE] | rw[List.length_cons] | rw[List.length_nil])) <;> omega) | (refine(?_:_∧True).1; constructor; simp only[aL, *]; exact True.intro))) only[aX,gib7]; try exact rfl) ?_)
           refine T.fA Kj ?_
           refine T.bind (oU (ws:=ws) (z:=z5) h7 rfl rfl rfl rfl fun st8 h8 k8=>?_)
           have n_k8:=k8.le; (try simp only[aB,aE] at n_k8)
           have K8:KP p p st st8:=(by repeat' (first | exact KP.trans (by repeat' (first | exact K7 | exact KP.refl | refine KP.dX ?_ | refine KP.loc ?_ ?_ | exact Or.inl rfl | exact Or.inr (Or.inl rfl) | ((try simp only[aB,aE]) <;> omega))) k8 | refine KP.dX ?_ | refine KP.loc ?_ ?_ | exact Or.inl rfl | exact Or.inr (Or.inl rfl) | ((try simp only[aB,aE]) <;> omega)))
           have gib8:st8.aS.get st.next=.some (.cells 124 true [.ref p 0]):=by simp(disch:=(first | ((repeat(first | rw[aB] | rw[aE] | rw[List.length_cons] | rw[List.length_nil])) <;> omega) | (refine(?_:_∧True).1; constructor; simp only[aL, *]; exact True.intro))) only[cD,k8.2.1,gib7]
           have gr8:st8.aS.get (st.next+1)=.some (.cells 28 true [(.int .i64 0),(.str []),(.int .i64 0),(.bool false),(.int .i64 0),(.str []),AV.aF,AV.aF,AV.aF,AV.aF]):=by simp(disch:=(first | ((repeat(first | rw[aB] | rw[aE] | rw[List.length_cons] | rw[List.length_nil])) <;> omega) | (refine(?_:_∧True).1; constructor; simp only[aL, *]; exact True.intro))) only[cD,k8.2.1,gr7]
           have gid8:st8.aS.get id=.some (.cells 124 true [.ref p 0]):=by simp(disch:=(first | ((repeat(first | rw[aB] | rw[aE] | rw[List.length_cons] | rw[List.length_nil])) <;> omega) | (refine(?_:_∧True).1; constructor; simp only[aL, *]; exact True.intro))) only[cD,k8.2.1,gid7]
           have gw8:st8.aS.get st1.next=.some (.cells 129 true [.int .i64 (wd ws (cN z).i).1,.str (wd ws (cN z).i).2.1,.int .i64 (wd ws (cN z).i).2.2]):=by simp(disch:=(first | ((repeat(first | rw[aB] | rw[aE] | rw[List.length_cons] | rw[List.length_nil])) <;> omega) | (refine(?_:_∧True).1; constructor; simp only[aL, *]; exact True.intro))) only[cD,k8.2.1,gw7]
           repeat(refine T.step (by simp(disch:=(first | ((repeat(first | rw[aB] | rw[aE] | rw[List.length_cons] | rw[List.length_nil])) <;> omega) | (refine(?_:_∧True).1; constructor; simp only[aL, *]; exact True.intro))) only[aX,gr8]; try exact rfl) ?_)
           refine T.bind (Dd (ws:=ws) (p:=p) (id:=id) (z:=gG z5) (by repeat' (first | exact h8 | refine PS.push ?_ _ | refine PS.put ?_ _ ?_ | ((try simp only[aB,aE]) <;> omega))) ?_ fun st9 h9 k9=>?_)
           ·simp(disch:=(first | ((repeat(first | rw[aB] | rw[aE] | rw[List.length_cons] | rw[List.length_nil])) <;> omega) | (refine(?_:_∧True).1; constructor; simp only[aL, *]; exact True.intro))) only[cD,gid8]
           have n_k9:=k9.le; (try simp only[aB,aE] at n_k9)
           have K9:KP p p st st9:=(by repeat' (first | exact KP.trans (by repeat' (first | exact K8 | exact KP.refl | refine KP.dX ?_ | refine KP.loc ?_ ?_ | exact Or.inl rfl | exact Or.inr (Or.inl rfl) | ((try simp only[aB,aE]) <;> omega))) k9 | refine KP.dX ?_ | refine KP.loc ?_ ?_ | exact Or.inl rfl | exact Or.inr (Or.inl rfl) | ((try simp only[aB,aE]) <;> omega)))
           repeat(refine T.step (by simp(disch:=(first | ((repeat(first | rw[aB] | rw[aE] | rw[List.length_cons] | rw[List.length_nil])) <;> omega) | (refine(?_:_∧True).1; constructor; simp only[aL, *]; exact True.intro))) only[aX,k9.2.1]; try exact rfl) ?_)
           exact T.some (hφ _ _ _ (RX.leaf 2 s V0) h9 K9)
          ·rw[if_neg (fun h=>he h.2)] at hb
           obtain⟨q,hq,hb⟩:=Option.bind_eq_some_iff.1 hb
           obtain⟨x,z5⟩:=q
           obtain⟨rfl,rfl⟩:=Prod.mk.inj (Option.some.inj hb)
           refine T.gY he ?_
           refine T.bind (OY W h60 hq fun st7 kv nv hx h7 k7=>?_)
           obtain⟨o1,o2⟩:=hx.one
           have n_k7:=k7.le; (try simp only[aB,aE] at n_k7)
           have K7:KP p p st st7:=(by repeat' (first | exact KP.trans (by repeat' (first | exact K6 | exact KP.refl | refine KP.dX ?_ | refine KP.loc ?_ ?_ | exact Or.inl rfl | exact Or.inr (Or.inl rfl) | ((try simp only[aB,aE]) <;> omega))) k7 | refine KP.dX ?_ | refine KP.loc ?_ ?_ | exact Or.inl rfl | exact Or.inr (Or.inl rfl) | ((try simp only[aB,aE]) <;> omega)))
           have gib7:st7.aS.get st.next=.some (.cells 124 true [.ref p 0]):=by simp(disch:=(first | ((repeat(first | rw[aB] | rw[aE] | rw[List.length_cons] | rw[List.length_nil])) <;> omega) | (refine(?_:_∧True).1; constructor; simp only[aL, *]; exact True.intro))) only[cD,k7.2.1,gib6]
           have gr7:st7.aS.get (st.next+1)=.some (.cells 28 true [(.int .i64 0),(.str []),(.int .i64 0),(.bool false),(.int .i64 0),(.str []),AV.aF,AV.aF,AV.aF,AV.aF]):=by simp(disch:=(first | ((repeat(first | rw[aB] | rw[aE] | rw[List.length_cons] | rw[List.length_nil])) <;> omega) | (refine(?_:_∧True).1; constructor; simp only[aL, *]; exact True.intro))) only[cD,k7.2.1,gr6]
           have gid7:st7.aS.get id=.some (.cells 124 true [.ref p 0]):=by simp(disch:=(first | ((repeat(first | rw[aB] | rw[aE] | rw[List.length_cons] | rw[List.length_nil])) <;> omega) | (refine(?_:_∧True).1; constructor; simp only[aL, *]; exact True.intro))) only[cD,k7.2.1,gid6]
           have gw7:st7.aS.get st1.next=.some (.cells 129 true [.int .i64 (wd ws (cN z).i).1,.str (wd ws (cN z).i).2.1,.int .i64 (wd ws (cN z).i).2.2]):=by simp(disch:=(first | ((repeat(first | rw[aB] | rw[aE] | rw[List.length_cons] | rw[List.length_nil])) <;> omega) | (refine(?_:_∧True).1; constructor; simp only[aL, *]; exact True.intro))) only[cD,k7.2.1,gw6]
           repeat(refine T.step (by simp(disch:=(first | ((repeat(first | rw[aB] | rw[aE] | rw[List.length_cons] | rw[List.length_nil])) <;> omega) | (refine(?_:_∧True).1; constructor; simp only[aL, *]; exact True.intro))) only[aX,gr7]; try exact rfl) ?_)
           refine T.bind (Dd (ws:=ws) (p:=p) (id:=id) (z:=z5) (by repeat' (first | exact h7 | refine PS.push ?_ _ | refine PS.put ?_ _ ?_ | ((try simp only[aB,aE]) <;> omega))) ?_ fun st8 h8 k8=>?_)
           ·simp(disch:=(first | ((repeat(first | rw[aB] | rw[aE] | rw[List.length_cons] | rw[List.length_nil])) <;> omega) | (refine(?_:_∧True).1; constructor; simp only[aL, *]; exact True.intro))) only[cD,gid7]
           have n_k8:=k8.le; (try simp only[aB,aE] at n_k8)
           have K8:KP p p st st8:=(by repeat' (first | exact KP.trans (by repeat' (first | exact K7 | exact KP.refl | refine KP.dX ?_ | refine KP.loc ?_ ?_ | exact Or.inl rfl | exact Or.inr (Or.inl rfl) | ((try simp only[aB,aE]) <;> omega))) k8 | refine KP.dX ?_ | refine KP.loc ?_ ?_ | exact Or.inl rfl | exact Or.inr (Or.inl rfl) | ((try simp only[aB,aE]) <;> omega)))
           repeat(refine T.step (by simp(disch:=(first | ((repeat(first | rw[aB] | rw[aE] | rw[List.length_cons] | rw[List.length_nil])) <;> omega) | (refine(?_:_∧True).1; constructor; simp only[aL, *]; exact True.intro))) only[aX,k8.2.1]; try exact rfl) ?_)
           exact T.some (hφ _ _ _ hx h8 K8)
         ·rw[if_neg (fun h=>hk h.1)] at hb
          obtain⟨q,hq,hb⟩:=Option.bind_eq_some_iff.1 hb
          obtain⟨x,z5⟩:=q
          obtain⟨rfl,rfl⟩:=Prod.mk.inj (Option.some.inj hb)
          refine T.gY hk ?_
          repeat(refine T.step (by simp(disch:=(first | ((repeat(first | rw[aB] | rw[aE] | rw[List.length_cons] | rw[List.length_nil])) <;> omega) | (refine(?_:_∧True).1; constructor; simp only[aL, *]; exact True.intro))) only[aX,gib6]; try exact rfl) ?_)
          refine T.bind (OY W h60 hq fun st7 kv nv hx h7 k7=>?_)
          obtain⟨o1,o2⟩:=hx.one
          have n_k7:=k7.le; (try simp only[aB,aE] at n_k7)
          have K7:KP p p st st7:=(by repeat' (first | exact KP.trans (by repeat' (first | exact K6 | exact KP.refl | refine KP.dX ?_ | refine KP.loc ?_ ?_ | exact Or.inl rfl | exact Or.inr (Or.inl rfl) | ((try simp only[aB,aE]) <;> omega))) k7 | refine KP.dX ?_ | refine KP.loc ?_ ?_ | exact Or.inl rfl | exact Or.inr (Or.inl rfl) | ((try simp only[aB,aE]) <;> omega)))
          have gib7:st7.aS.get st.next=.some (.cells 124 true [.ref p 0]):=by simp(disch:=(first | ((repeat(first | rw[aB] | rw[aE] | rw[List.length_cons] | rw[List.length_nil])) <;> omega) | (refine(?_:_∧True).1; constructor; simp only[aL, *]; exact True.intro))) only[cD,k7.2.1,gib6]
          have gr7:st7.aS.get (st.next+1)=.some (.cells 28 true [(.int .i64 0),(.str []),(.int .i64 0),(.bool false),(.int .i64 0),(.str []),AV.aF,AV.aF,AV.aF,AV.aF]):=by simp(disch:=(first | ((repeat(first | rw[aB] | rw[aE] | rw[List.length_cons] | rw[List.length_nil])) <;> omega) | (refine(?_:_∧True).1; constructor; simp only[aL, *]; exact True.intro))) only[cD,k7.2.1,gr6]
          have gid7:st7.aS.get id=.some (.cells 124 true [.ref p 0]):=by simp(disch:=(first | ((repeat(first | rw[aB] | rw[aE] | rw[List.length_cons] | rw[List.length_nil])) <;> omega) | (refine(?_:_∧True).1; constructor; simp only[aL, *]; exact True.intro))) only[cD,k7.2.1,gid6]
          have gw7:st7.aS.get st1.next=.some (.cells 129 true [.int .i64 (wd ws (cN z).i).1,.str (wd ws (cN z).i).2.1,.int .i64 (wd ws (cN z).i).2.2]):=by simp(disch:=(first | ((repeat(first | rw[aB] | rw[aE] | rw[List.length_cons] | rw[List.length_nil])) <;> omega) | (refine(?_:_∧True).1; constructor; simp only[aL, *]; exact True.intro))) only[cD,k7.2.1,gw6]
          repeat(refine T.step (by simp(disch:=(first | ((repeat(first | rw[aB] | rw[aE] | rw[List.length_cons] | rw[List.length_nil])) <;> omega) | (refine(?_:_∧True).1; constructor; simp only[aL, *]; exact True.intro))) only[aX,gr7]; try exact rfl) ?_)
          refine T.bind (Dd (ws:=ws) (p:=p) (id:=id) (z:=z5) (by repeat' (first | exact h7 | refine PS.push ?_ _ | refine PS.put ?_ _ ?_ | ((try simp only[aB,aE]) <;> omega))) ?_ fun st8 h8 k8=>?_)
          ·simp(disch:=(first | ((repeat(first | rw[aB] | rw[aE] | rw[List.length_cons] | rw[List.length_nil])) <;> omega) | (refine(?_:_∧True).1; constructor; simp only[aL, *]; exact True.intro))) only[cD,gid7]
          have n_k8:=k8.le; (try simp only[aB,aE] at n_k8)
          have K8:KP p p st st8:=(by repeat' (first | exact KP.trans (by repeat' (first | exact K7 | exact KP.refl | refine KP.dX ?_ | refine KP.loc ?_ ?_ | exact Or.inl rfl | exact Or.inr (Or.inl rfl) | ((try simp only[aB,aE]) <;> omega))) k8 | refine KP.dX ?_ | refine KP.loc ?_ ?_ | exact Or.inl rfl | exact Or.inr (Or.inl rfl) | ((try simp only[aB,aE]) <;> omega)))
          repeat(refine T.step (by simp(disch:=(first | ((repeat(first | rw[aB] | rw[aE] | rw[List.length_cons] | rw[List.length_nil])) <;> omega) | (refine(?_:_∧True).1; constructor; simp only[aL, *]; exact True.intro))) only[aX,k8.2.1]; try exact rfl) ?_)
          exact T.some (hφ _ _ _ hx h8 K8)
def pc (ws:List W)(Rn:Nat):Nat→Pr
 | 0=>⟨fun _ _=>none,fun _=>none,fun _=>none⟩
 | k+1=>⟨qL ws (pc ws Rn k) Rn,N5 ws (pc ws Rn k) Rn,Eb ws (pc ws Rn k) Rn⟩
theorem CN {ws:List W}(W:Wf ws)(Rn:Nat):∀ k,Nt ws (FF Rn k) (pc ws Rn k)
 | 0=>⟨(fun _ _ _ h _=>by cases h),(fun _ h _=>by cases h),(fun _ h _=>by cases h)⟩
 | k+1=>⟨fun h0 h6 hP hb hφ=>z6 W (CN W Rn k) h0 h6 hP (by rw[xQ]; exact hb) hφ,fun hP hb hφ=>QE W (CN W Rn k) hP (by rw[xQ]; exact hb) hφ,fun hP hb hφ=>OB W (CN W Rn k) hP (by rw[xQ]; exact hb) hφ⟩
def N4 (ws:List W)(Rn:Nat)(z:Z):Option (Ex×Z):=qL ws (pc ws Rn 4000) Rn 0 z
theorem Pa {ws:List W}(W:Wf ws){R:Nat}{st:St}{p:Nat}{z z':Z}{e:Ex}{φ:Int×List UInt8×Int×Bool×Int×List UInt8×AV×AV×AV×AV×St→Prop}
 (hP:PS ws st p z) (hb:N4 ws R z=.some (e,z')) (hφ:EP ws st p p e z' φ):T φ (jG R (.ref p 0) 0 st):=
 z6 W (CN W R 4000) (by decide) (by decide) hP (by rw[xQ]; exact hb) hφ
end
end Go.Proofs.YthodfojhbbendaaGreatDoor
end
section
set_option linter.all false
set_option maxRecDepth 100000
set_option maxHeartbeats 4000000
namespace Go.Proofs.YthodfojhbbendaaGreatDoor
open Go Go.Ev
noncomputable section
attribute [local congr] n7 sW
structure Sm where
 k:Int
 t:List UInt8
 f:List UInt8
 v:Ex
 names:List (List UInt8)
 exprs:List Ex
 w:Ex
 Lq:List (List UInt8)
 c:Bool
 h:Bool
 o:List UInt8
 d:Bool
 l:Int
def E0:Ex:=.mk 0 [] V0 [] []
theorem RX.e0:RX E0 .aF .aF:=RX.leaf 0 [] V0
structure RS (m:Sm)(vk vn nv ev wk wn cv:AV):Prop where
 v:RX m.v vk vn
 names:Row 1 nv (m.names.map .str)
 exprs:∃ kcs,Row 10 ev kcs∧AQ m.exprs kcs
 w:RX m.w wk wn
 Lq:Row 1 cv (m.Lq.map .str)
theorem Row.nil {sz:Nat}:Row sz .aF []:=.inl ⟨rfl,rfl⟩
theorem AQ.Qi:∃ kcs,Row 10 .aF kcs∧AQ [] kcs:=⟨[],Row.nil,AQ.nil⟩
def SP (ws : List W) (st : St) (p : Nat) (m : Sm) (z : Z) (φ : Int × List UInt8 × List UInt8 × Int × List UInt8 × Int × Bool × Int × List UInt8 × AV × AV × AV × AV × AV × AV × Int × List UInt8 × Int × Bool × Int × List UInt8 × AV × AV × AV × AV × AV × Bool × Bool × List UInt8 × Bool × Int × St → Prop) : Prop :=
 ∀ st1 vk vn nv ev wk wn cv, RS m vk vn nv ev wk wn cv → PS ws st1 p z → KP p p st st1 →
  φ (m.k,m.t,m.f,m.v.k,m.v.s,m.v.v.k,m.v.v.b,m.v.v.n,m.v.v.s,.aF,.aF,vk,vn,nv,ev,m.w.k,m.w.s,m.w.v.k,m.w.v.b,m.w.v.n,m.w.v.s,.aF,.aF,wk,wn,cv,m.c,m.h,m.o,m.d,m.l,st1)
def Eh (ws:List W)(Rn:Nat)(z:Z):Option (Ex×Z):=match sR ws z [87,72,69,82,69] with
 | (true,z1)=>N4 ws Rn z1
 | (false,z1)=>.some (E0,z1)
theorem O3 {ws:List W}(W:Wf ws){R:Nat}{st:St}{p:Nat}{z z':Z}{e:Ex}{φ:Int×List UInt8×Int×Bool×Int×List UInt8×AV×AV×AV×AV×St→Prop}
 (hP:PS ws st p z) (hb:Eh ws R z=.some (e,z')) (hφ:EP ws st p p e z' φ):T φ (kJ R (.ref p 0) st):=by
 have hp:=hP.lt
 unfold kJ
 unfold Eh at hb
 rcases e1:sR ws z [87,72,69,82,69] with⟨b1,z1⟩
 rw[e1] at hb
 refine T.bind (yP W (by repeat' (first | exact hP | refine PS.push ?_ _ | refine PS.put ?_ _ ?_ | ((try simp only[aB,aE]) <;> omega))) e1 fun st1 h1 k1=>?_)
 have n_k1:=k1.le; (try simp only[aB,aE] at n_k1)
 have K1:KP p p st st1:=(by repeat' (first | exact KP.trans (by repeat' (first | exact KP.refl | exact KP.refl | refine KP.dX ?_ | refine KP.loc ?_ ?_ | exact Or.inl rfl | exact Or.inr (Or.inl rfl) | ((try simp only[aB,aE]) <;> omega))) k1 | refine KP.dX ?_ | refine KP.loc ?_ ?_ | exact Or.inl rfl | exact Or.inr (Or.inl rfl) | ((try simp only[aB,aE]) <;> omega)))
 cases b1 with
 | true =>
   refine T.fA rfl ?_
   refine T.bind (Pa W h1 hb fun st2 kv nv hx h2 k2=>?_)
   have n_k2:=k2.le; (try simp only[aB,aE] at n_k2)
   have K2:=K1.trans k2
   obtain⟨o1,o2⟩:=hx.one
   repeat(refine T.step (by simp(disch:=(first | ((repeat(first | rw[aB] | rw[aE] | rw[List.length_cons] | rw[List.length_nil])) <;> omega) | (refine(?_:_∧True).1; constructor; simp only[aL, *]; exact True.intro))) only[aX,k2.2.1,k1.2.1]; try exact rfl) ?_)
   exact T.some (hφ _ _ _ hx (by repeat' (first | exact h2 | refine PS.push ?_ _ | refine PS.put ?_ _ ?_ | ((try simp only[aB,aE]) <;> omega))) (by repeat' (first | exact K2 | exact KP.refl | refine KP.dX ?_ | refine KP.loc ?_ ?_ | exact Or.inl rfl | exact Or.inr (Or.inl rfl) | ((try simp only[aB,aE]) <;> omega))))
 | false =>
   obtain⟨rfl,rfl⟩:=Prod.mk.inj (Option.some.inj hb)
   refine T.gY (by decide) ?_
   repeat(refine T.step (by simp(disch:=(first | ((repeat(first | rw[aB] | rw[aE] | rw[List.length_cons] | rw[List.length_nil])) <;> omega) | (refine(?_:_∧True).1; constructor; simp only[aL, *]; exact True.intro))) only[aX,k1.2.1]; try exact rfl) ?_)
   exact T.some (hφ _ _ _ RX.e0 (by repeat' (first | exact h1 | refine PS.push ?_ _ | refine PS.put ?_ _ ?_ | ((try simp only[aB,aE]) <;> omega))) (by repeat' (first | exact K1 | exact KP.refl | refine KP.dX ?_ | refine KP.loc ?_ ?_ | exact Or.inl rfl | exact Or.inr (Or.inl rfl) | ((try simp only[aB,aE]) <;> omega))))
end
end Go.Proofs.YthodfojhbbendaaGreatDoor
end
section
set_option linter.all false
set_option maxRecDepth 100000
set_option maxHeartbeats 1000000
namespace Go.Proofs.YthodfojhbbendaaGreatDoor
open Go Go.Ev
noncomputable section
attribute [local congr] n7 sW
theorem Aj:∀{l:List AV},(∀ x ∈ l,AV.beq x x=true)→AV.uN l l=true
 | [],_=>rfl
 | a :: l, h => by
   show(AV.beq a a && AV.uN l l)=true
   rw[h a List.mem_cons_self,Aj fun x hx=>h x (List.mem_cons_of_mem _ hx)]; rfl
theorem IZ:∀{l:List AV},AV.uN l l=true→ ∀ x ∈ l,AV.beq x x=true
 | a :: l, h, x, hx => by
   have h:(AV.beq a a && AV.uN l l)=true:=h
   obtain⟨h1,h2⟩:=Bool.and_eq_true_iff.1 h
   rcases List.mem_cons.1 hx with rfl | hx
   ·exact h1
   ·exact IZ h2 x hx
theorem IT {sz:Nat}{x:AV}{cs:List AV}(h:Row sz x cs)(k:AV.uN cs cs=true):AV.beq x x=true:=by
 rcases h with⟨rfl,_⟩ | ⟨id,e,len,cap,rfl,_⟩
 ·rfl
 ·simp only[AV.beq,Nat.beq_refl,k,beq_self_eq_true,Bool.and_self]
theorem chunks {kcs:List AV}{n:Nat}(hl:kcs.length=n * 10)(h:∀ j,j<n→AV.uN ((kcs.drop (j * 10)).take 10) ((kcs.drop (j * 10)).take 10)=true):AV.uN kcs kcs=true:=by
 refine Aj fun x hx=>?_
 obtain⟨i,hi,rfl⟩:=List.mem_iff_getElem.1 hx
 refine IZ (h (i / 10) (by omega)) _ ?_
 refine List.mem_iff_getElem.2 ⟨i % 10,by rw[List.length_take,List.length_drop]; omega,?_⟩
 rw[List.getElem_take,List.getElem_drop]
 congr 1
 omega
theorem RE.uN {e:Ex}{c:List AV}(h:RE e c):AV.uN c c=true:=by
 induction h with
 | mk h1 h2 h3 h4 ih =>
   refine Aj fun x hx=>?_
   have hk:=IT h1 (chunks h3 ih)
   have hn:=Jt h2
   simp only[List.mem_cons,List.not_mem_nil,or_false] at hx
   rcases hx with rfl | rfl | rfl | rfl | rfl | rfl | rfl | rfl | rfl | rfl
   ·exact vF _ _
   ·exact tL _
   ·exact vF _ _
   ·exact EJ _
   ·exact vF _ _
   ·exact tL _
   ·rfl
   ·rfl
   ·exact hk
   ·exact hn
theorem Ca {x:AV}{kcs:List AV}{l:List Ex}(h:Row 10 x kcs)(k:AQ l kcs):AV.beq x x=true:=IT h (chunks k.1 fun j hj=>(k.2 j hj).uN)
end
end Go.Proofs.YthodfojhbbendaaGreatDoor
end
section
set_option linter.all false
set_option maxRecDepth 100000
set_option maxHeartbeats 1000000
namespace Go.Proofs.YthodfojhbbendaaGreatDoor
open Go Go.Ev
noncomputable section
attribute [local congr] n7 sW
def G5 (ws:List W)(z:Z):Prop:=z.e=0∧(wd ws z.i).1=2∧(wd ws z.i).2.1=[68,69,76,69,84,69]
theorem Lu {ws:List W}{z:Z}{s:List UInt8}(h:G5 ws z)(hs:s≠[68,69,76,69,84,69]):sR ws z s=(false,z):=by
 show vB ws z 2 _=_
 unfold vB
 rw[if_neg]
 unfold LB
 intro hq
 have:=of_decide_eq_true hq
 exact hs (this.2.2.symm.trans h.2.2)
theorem Lr {ws:List W}{z:Z}(h:G5 ws z):sR ws z [68,69,76,69,84,69]=(true,sL z):=by
 show vB ws z 2 _=_
 unfold vB
 rw[if_pos]
 unfold LB
 exact decide_eq_true h
def Hf (ws:List W)(Rn:Nat)(z:Z):Option (Sm×Z):=(Eh ws Rn (lO ws (oC ws (sL z) 2 [70,82,79,77])).2).bind fun q=>.some (⟨5,(lO ws (oC ws (sL z) 2 [70,82,79,77])).1,[],E0,[],[],q.1,[],false,false,[],false,-1⟩,q.2)
theorem Ol {ws:List W}(W:Wf ws){R:Nat}{st:St}{p:Nat}{z z':Z}{m:Sm}{φ:Int×List UInt8×List UInt8×Int×List UInt8×Int×Bool×Int×List UInt8×AV×AV×AV×AV×AV×AV×Int×List UInt8×Int×Bool×Int×List UInt8×AV×AV×AV×AV×AV×Bool×Bool×List UInt8×Bool×Int×St→Prop}
 (hD:G5 ws z) (hP:PS ws st p z) (hb:Hf ws R z=.some (m,z')) (hφ:SP ws st p m z' φ):T φ (kW R (.ref p 0) st):=by
 have hp:=hP.lt
 unfold kW
 unfold Hf at hb
 refine T.bind (yP W (by repeat' (first | exact hP | refine PS.push ?_ _ | refine PS.put ?_ _ ?_ | ((try simp only[aB,aE]) <;> omega))) (Lu hD (by decide)) fun st1 h1 k1=>?_)
 have n_k1:=k1.le; (try simp only[aB,aE] at n_k1)
 have K1:KP p p st st1:=(by repeat' (first | exact KP.trans (by repeat' (first | exact KP.refl | exact KP.refl | refine KP.dX ?_ | refine KP.loc ?_ ?_ | exact Or.inl rfl | exact Or.inr (Or.inl rfl) | ((try simp only[aB,aE]) <;> omega))) k1 | refine KP.dX ?_ | refine KP.loc ?_ ?_ | exact Or.inl rfl | exact Or.inr (Or.inl rfl) | ((try simp only[aB,aE]) <;> omega)))
 have gr1:st1.aS.get st.next=.some (.cells 58 true [.int .i64 0,.str [],.str [],(.int .i64 0),(.str []),(.int .i64 0),(.bool false),(.int .i64 0),(.str []),AV.aF,AV.aF,AV.aF,AV.aF,.aF,.aF,(.int .i64 0),(.str []),(.int .i64 0),(.bool false),(.int .i64 0),(.str []),AV.aF,AV.aF,AV.aF,AV.aF,.aF,.bool false,.bool false,.str [],.bool false,.int .i64 0]):=by simp(disch:=(first | ((repeat(first | rw[aB] | rw[aE] | rw[List.length_cons] | rw[List.length_nil])) <;> omega) | (refine(?_:_∧True).1; constructor; simp only[aL, *]; exact True.intro))) only[cD,k1.2.1]
 refine T.gY (by decide) ?_
 refine T.bind (yP W h1 (Lu hD (by decide)) fun st3 h3 k3=>?_)
 have n_k3:=k3.le; (try simp only[aB,aE] at n_k3)
 have K3:=K1.trans k3
 have gr3:=(k3.get (show st.next<st1.next by omega) (by omega) (by omega)).trans gr1
 refine T.gY (by decide) ?_
 refine T.bind (yP W h3 (Lu hD (by decide)) fun st4 h4 k4=>?_)
 have n_k4:=k4.le; (try simp only[aB,aE] at n_k4)
 have K4:=K3.trans k4
 have gr4:=(k4.get (show st.next<st3.next by omega) (by omega) (by omega)).trans gr3
 refine T.gY (by decide) ?_
 refine T.bind (yP W h4 (Lr hD) fun st5 h5 k5=>?_)
 have n_k5:=k5.le; (try simp only[aB,aE] at n_k5)
 have K5:=K4.trans k5
 have gr5:=(k5.get (show st.next<st4.next by omega) (by omega) (by omega)).trans gr4
 obtain⟨q,hq,hb⟩:=Option.bind_eq_some_iff.1 hb
 obtain⟨w,z5⟩:=q
 obtain⟨rfl,rfl⟩:=Prod.mk.inj (Option.some.inj hb)
 refine T.fA rfl ?_
 refine T.bind (Ld W h5 fun st6 h6 k6=>?_)
 refine T.bind (E4 W h6 fun st7 h7 k7=>?_)
 have n_k6:=k6.le; (try simp only[aB,aE] at n_k6); have n_k7:=k7.le; (try simp only[aB,aE] at n_k7)
 have K7:=(K5.trans k6).trans k7
 have hp7:=h7.lt
 repeat(refine T.step (by simp(disch:=(first | ((repeat(first | rw[aB] | rw[aE] | rw[List.length_cons] | rw[List.length_nil])) <;> omega) | (refine(?_:_∧True).1; constructor; simp only[aL, *]; exact True.intro))) only[aX]; try exact rfl) ?_)
 refine T.bind (O3 (ws:=ws) (z:=(lO ws (oC ws (sL z) 2 [70,82,79,77])).2) W (by repeat' (first | exact h7 | refine PS.push ?_ _ | refine PS.put ?_ _ ?_ | ((try simp only[aB,aE]) <;> omega))) hq fun st8 vk vn hx h8 k8=>?_)
 have n_k8:=k8.le; (try simp only[aB,aE] at n_k8)
 have K8:KP p p st st8:=(by repeat' (first | exact KP.trans (by repeat' (first | exact K7 | exact KP.refl | refine KP.dX ?_ | refine KP.loc ?_ ?_ | exact Or.inl rfl | exact Or.inr (Or.inl rfl) | ((try simp only[aB,aE]) <;> omega))) k8 | refine KP.dX ?_ | refine KP.loc ?_ ?_ | exact Or.inl rfl | exact Or.inr (Or.inl rfl) | ((try simp only[aB,aE]) <;> omega)))
 obtain⟨o1,o2⟩:=hx.one
 repeat(refine T.step (by simp(disch:=(first | ((repeat(first | rw[aB] | rw[aE] | rw[List.length_cons] | rw[List.length_nil])) <;> omega) | (refine(?_:_∧True).1; constructor; simp only[aL, *]; exact True.intro))) only[aX,k8.2.1,k7.2.1,k6.2.1,gr5,Gv,dJ]; try exact rfl) ?_)
 exact T.some (hφ _ _ _ _ _ _ _ _ ⟨RX.e0,Row.nil,AQ.Qi,hx,Row.nil⟩ (by repeat' (first | exact h8 | refine PS.push ?_ _ | refine PS.put ?_ _ ?_ | ((try simp only[aB,aE]) <;> omega))) (by repeat' (first | exact K8 | exact KP.refl | refine KP.dX ?_ | refine KP.loc ?_ ?_ | exact Or.inl rfl | exact Or.inr (Or.inl rfl) | ((try simp only[aB,aE]) <;> omega))))
end
end Go.Proofs.YthodfojhbbendaaGreatDoor
end
section
set_option linter.all false
set_option maxRecDepth 100000
set_option maxHeartbeats 4000000
namespace Go.Proofs.YthodfojhbbendaaGreatDoor
open Go Go.Ev
noncomputable section
attribute [local congr] n7 sW
def KN (st st':St):Prop:=st.next≤st'.next∧(∀ i,i<st.next→st'.aS.get i=st.aS.get i)∧st'.old=st.old
theorem KN.refl {st:St}:KN st st:=⟨Nat.le_refl _,fun _ _=>rfl,rfl⟩
theorem KN.trans {a b c:St}(h:KN a b)(k:KN b c):KN a c:=⟨Nat.le_trans h.1 k.1,fun i hi=>(k.2.1 i (Nat.lt_of_lt_of_le hi h.1)).trans (h.2.1 i hi),k.2.2.trans h.2.2⟩
theorem KN.dX {st s:St}{o:gS}(h:KN st s):KN st (s.push o):=⟨Nat.le_succ_of_le h.1,fun i hi=>(Pf (by have:=h.1; omega)).trans (h.2.1 i hi),h.2.2⟩
theorem KN.loc {st s:St}{id:Nat}{o:gS}(h:KN st s)(hi:st.next≤id):KN st (s.put id o):=⟨h.1,fun i h1=>(NG (by omega)).trans (h.2.1 i h1),h.2.2⟩
theorem KN.le {st s:St}(h:KN st s):st.next≤s.next:=h.1
theorem KN.kp {p q:Nat}{st s:St}(h:KN st s):KP p q st s:=⟨h.1,fun i h1 _ _=>h.2.1 i h1,h.2.2⟩
theorem Sl.kn {sz:Nat}{st st1:St}{x:AV}{cells:List AV}(h:Sl st sz x cells)(k:KN st st1):Sl st1 sz x cells:=h.keeps (p:=fun _=>False) ⟨k.1,fun i hi _=>k.2.1 i hi⟩ (fun _ _ h=>h)
theorem KN.keeps {st0 st st1:St}{x:AV}(h:KN st0 st)(k:mV st st1 (eL x))(ho:st1.old=st.old)(hf:∀ id,eL x id→st0.next≤id):KN st0 st1:=
 ⟨Nat.le_trans h.1 k.1,fun i h1=>(k.2 i (Nat.lt_of_lt_of_le h1 h.1) (fun e=>absurd (hf i e) (by omega))).trans (h.2.1 i h1),ho.trans h.2.2⟩
theorem PU {t:TypeId}{sz:Nat}[xO C0.P t sz]{st0 st:St}{x v:AV}{cells:List AV}{β:Type}{φ:β→Prop}{k:AV×St→Option β}
 (hK:KN st0 st) (h:Sl st sz x cells) (hf:∀ id,eL x id→st0.next≤id) (hl:v.cells.length=sz) (h1:v.cells.all AV.one=true) (hn:cells.length≤iL) (hs:sz≤16777216)
 (hk:∀ x' st1,KN st0 st1→Sl st1 sz x' (cells ++ v.cells)→(∀ id,eL x' id→st0.next≤id)→(∀ i,i<st.next→ ¬ eL x i→st1.aS.get i=st.aS.get i)→st.next≤st1.next→T φ (k (x',st1))):
 T φ (Option.bind (eV (aY C0.P false t 1 [(0,v)]) st) fun o=>match o with | (x1,st1)=>Option.bind (cX C0.P false st1 #[t,t] x x1) k):=by
 obtain⟨x',st1,e,hS,hKe,hF,hO⟩:=M9 (P:=C0.P) (t:=t) k h hl h1 hn hs
 have:=hk x' st1 (hK.keeps hKe hO hf) hS (fun id hi=>(hF id hi).elim (hf id) (fun h=>Nat.le_trans hK.1 h)) hKe.2 hKe.1
 exact e ▸ this
inductive OX where
 | mk (s:List UInt8) (kids:List OX)
mutual
def RD:OX→Nat
 | .mk s kids=>10+s.length+Pw kids
def Pw:List OX→Nat
 | []=>0
 | t :: l=>RD t+Pw l
end
mutual
def Qz:OX→Nat
 | .mk _ kids=>Ps kids+1
def Ps:List OX→Nat
 | []=>0
 | t :: l=>max (Qz t) (Ps l)
end
mutual
def Ex.dp:Ex→Nat
 | .mk _ _ _ kids _=>NH kids+1
def NH:List Ex→Nat
 | []=>0
 | e :: l=>max e.dp (NH l)
end
def NF:List (List UInt8)→Nat
 | []=>0
 | n :: l=>n.length+20+NF l
mutual
def Ex.wt:Ex→Nat
 | .mk _ s v kids names=>100+s.length+v.s.length+Lh kids+NF names
def Lh:List Ex→Nat
 | []=>0
 | e :: l=>e.wt+Lh l
end
def QT (v:Vl):OX:=
 if v.k=0 then .mk [78,85,76,76] [] else if v.k=1 then if v.b=true then .mk [84,82,85,69] [] else .mk [70,65,76,83,69] []
 else if v.k=2 then .mk ([78,85,77,32] ++ Go.Lib.itoa v.n) [] else if v.k=3 then .mk ([83,84,82,32] ++ v.s) [] else .mk ([72,69,88,32] ++ v.s) []
def PJ (k:Int)(s:List UInt8):List UInt8:=
 if k=3 then [78,69,71] else if k=4 then [78,79,84] else if k=5 then [73,83,78,85,76,76] else if k=6 then s else if k=7 then [76,73,83,84] else [83,84,82,85,67,84]
mutual
def tE:Ex→OX
 | .mk k s v kids names=>if k=1 then QT v else if k=2 then .mk ([70,73,69,76,68,32] ++ s) [] else .mk (PJ k s) (Qh (decide (k=8)) kids names)
def Qh:Bool→List Ex→List (List UInt8)→List OX
 | _,[],_=>[]
 | b,e :: l,[]=>tE e :: Qh b l []
 | b,e :: l,n :: ns=>(if b=true then .mk ([65,83,32] ++ n) [tE e] else tE e) :: Qh b l ns
end
def Vl.ok (v:Vl):Prop:=v.k=2→ -9223372036854775808≤v.n∧v.n≤9223372036854775807
end
end Go.Proofs.YthodfojhbbendaaGreatDoor
end
section
set_option linter.all false
set_option maxRecDepth 100000
namespace Go.Proofs.YthodfojhbbendaaGreatDoor
open Go Go.Ev
noncomputable section
def rG (R:Nat)(a:List UInt8)(b:St):Option (List UInt8×St):=
 (QD R a [0] [0,255] b).bind fun(c,d)=>
 (lB c [0,1]).bind fun e=>
 some (e,d)
theorem zY {R:Nat}(n:Nat){a:List UInt8}{b:St}{r:List UInt8×St}(h:rG R a b=some r):
 aR (aW C0 bK R (n+2)) false 102 [(.str a)] b (.str r.1) r.2:=by
 revert h;unfold rG;refine aA fun o c=>?_;obtain⟨d,e⟩:=o;refine aA fun f g=>?_;intro h;obtain rfl:=b9 h;exact dE (hs:=[.run 2,.call (.str d) e,.val (.str f),.run 1]) (by kernel_rfl) (aG (fV g)<|aG (PL n c) eE)
def lC (R:Nat)(b:Int)(c:AV)(i:Int)(a:Int)(d:St):Option (St):=
 (pA .shr .u64 b .i64 (IntKind.wrap .i64 (8 * a))).bind fun e=>
 (dN .u64 e).bind fun f=>
 (bA C0.P 90 c (.int .i64 (IntKind.wrap .i64 (7 - a)))).bind fun g=>
 (storeAt C0.P d 5 g (.int .u8 (IntKind.wrap .u8 f))).bind fun h=>
 some h
theorem xI {R:Nat}(n:Nat){a:Int}{b:AV}{c:Int}{d:Int}{e:St}{r:St}(h:lC R a b c d e=some r):
 oE 23 bK R n 101 [1,1,0,1,0,0,1,1,0] [(0,(.int .u64 a)),(3,b),(7,(.int .i64 c)),(8,(.int .i64 d))] e .normal [] r:=by
 revert h;unfold lC;refine aA fun o f=>aA fun g i=>?_
 obtain rfl:=bE i;refine aA fun j k=>aA fun l m=>?_
 intro h;obtain rfl:=b9 h;exact aK (hs:=[.aM,.run 8,.val (.int .u64 g),.run 1,.val j,.cA AV.undef l]) (want:=[]) (by kernel_rfl) (aG (aN m)<|aG k<|aG f eE)
def jP (R : Nat) (c : Int) (d : AV) (a : Int) : Nat → Int → St → Option ((St))
 | 0,_,_=>none
 | r + 1, b, e =>
   if(b<a) then
    (lC R c d a b e).bind fun f=>
    jP R c d a r (IntKind.wrap .i64 (b+1)) f
   else
    some e
def pC (o:(St)):cE×List (Nat×AV)×St:=match o with
 | a0=>((.exit 0),[],a0)
theorem AT (R n:Nat)(d:Int)(e:AV)(f:Int):∀(r:Nat) (a:Int) (b:St) (o:(St)),jP R d e f r a b=some o →
 jL 23 (jA (fun fr k=>cZ C0 (aW C0 bK R n) 101 R none (dA C0.P 101 [1,1,0,1,0,0]) fr k) r) (dI (dA C0.P 101 [1,1,0,1,0,0])) [(0,(.int .u64 d)),(3,e),(7,(.int .i64 f)),(8,(.int .i64 a))] b (pC o).1 (pC o).2.1 (pC o).2.2:=by
 intro r
 induction r with
 | zero=>intro a b o h; exact nomatch h
 | succ r ih =>
   intro a b o
   unfold jP;refine aU (fun c=>?_) (fun c=>?_)
   ·refine aA fun g i=>?_;intro h;exact cS (aK (hs:=[.dec true,.aM,.nW [0,3,7,8] .normal [] g,.run 2]) (want:=[0,3,7,8]) (by kernel_rfl) (.cons (xI n i)<|.cons (decide_eq_true c) .nil)) (ih (IntKind.wrap .i64 (a+1)) g _ h)
   ·intro h;obtain rfl:=b9 h;exact bI (aK (hs:=[.dec false,.aM]) (want:=[]) (by kernel_rfl) (.cons (decide_eq_false c) .nil)) (by kernel_rfl)
def oM (R:Nat)(a:Int)(b:AV)(c:Int)(d:St):Option (St):=
 (jP R a b c R 0 d).bind fun e=>
 some e
theorem B5 {R:Nat}(n:Nat){a:Int}{b:AV}{c:Int}{d:St}{r:St}(h:oM R a b c d=some r):
 oE 23 bK R n 101 [1,1,0,1] [(0,(.int .u64 a)),(3,b),(7,(.int .i64 c)),(8,(.int .i64 0))] d .normal [] r:=by
 revert h;unfold oM;refine aA fun e f=>?_;intro h;obtain rfl:=b9 h;exact aK (hs:=[.aM,.abs [0,3,7,8] (.exit 0) [] e]) (want:=[]) (by kernel_rfl) (aG (bY (AT R n a b c R 0 d _ f)) eE)
def tX (R:Nat)(c:Int)(d:St):Option (List UInt8×St):=
 (eV (pB C0.P 90 (.int .i64 8) (.int .i64 8)) d).bind fun(a,e)=>
 (lenOf a).bind fun n3662=>
 (oM R c a (n3662:Int) e).bind fun b=>
 (strOf b a).bind fun f=>
 some (f,b)
theorem F4 {R:Nat}(n:Nat){a:Int}{b:St}{r:List UInt8×St}(h:tX R a b=some r):
 aR (aW C0 bK R (n+1)) false 101 [(.int .u64 a)] b (.str r.1) r.2:=by
 revert h;unfold tX;refine aA fun o c=>?_;obtain⟨d,f⟩:=o;refine aA fun n3662 g=>aA fun i j=>aA fun k l=>?_
 intro h;obtain rfl:=b9 h;exact dE (hs:=[.run 1,.cA d f,.run 2,.val (.int .i64 (n3662:Int)),.run 1,.nW [0,3,7,8] .normal [] i,.run 1,.val (.str k),.run 1]) (by kernel_rfl) (aG (qB l)<|aG (B5 n j)<|aG (cV (P:=C0.P) (t:=90) (e:=5) (by kernel_rfl) g)<|aG c eE)
def iE (R : Nat) : Nat → AV → St → Option ((AV × St))
 | 0,_,_=>none
 | r + 1, a, b =>
   (lenOf a).bind fun n3746=>
   if((n3746:Int)>0) then
    (bA C0.P 90 a (.int .i64 (IntKind.wrap .i64 ((n3746:Int) - 1)))).bind fun c=>
    (loadAt C0.P b 5 c).bind fun d=>
    (dN .u8 d).bind fun e=>
    if(e=255) then
     (y8 C0.P b 90 a none (some (.int .i64 (IntKind.wrap .i64 ((n3746:Int) - 1)))) none).bind fun f=>
     iE R r f b
    else
     some (a,b)
   else
    some (a,b)
def rU (o:(AV×St)):cE×List (Nat×AV)×St:=match o with
 | (a0,a1)=>((.exit 0),[(3,a0)],a1)
theorem Bz (R n : Nat) : ∀ (r : Nat) (c : AV) (b : St) (o : (AV × St)), iE R r c b = some o →
 jL 36 (jA (fun fr k=>cZ C0 (aW C0 bK R n) 58 R none (dA C0.P 58 [1,1,0,0,0]) fr k) r) (dI (dA C0.P 58 [1,1,0,0,0])) [(3,c)] b (rU o).1 (rU o).2.1 (rU o).2.2:=by
 intro r
 induction r with
 | zero=>intro c b o h; exact nomatch h
 | succ r ih =>
   intro c b o
   unfold iE;refine aA fun n3746 a=>?_;refine aU (fun d=>?_) (fun d=>?_)
   ·refine aA fun g i=>aA fun s j=>aA fun l p=>?_
    obtain rfl:=bE p;refine aU (fun f=>?_) (fun f=>?_)
    ·refine aA fun m q=>?_;intro h;exact cS (aK (hs:=[.run 1,.val (.int .i64 (n3746:Int)),.dec true,.run 3,.val (.int .i64 (n3746:Int)),.run 1,.val g,.val (.int .u8 l),.dec true,.run 1,.aM,.aM,.run 2,.val (.int .i64 (n3746:Int)),.run 1,.val m,.run 1]) (want:=[3]) (by kernel_rfl) (.cons q<|.cons (cV (P:=C0.P) (t:=90) (e:=5) (by kernel_rfl) a)<|.cons (eG f)<|.cons j<|.cons i<|.cons (cV (P:=C0.P) (t:=90) (e:=5) (by kernel_rfl) a)<|.cons (decide_eq_true d)<|.cons (cV (P:=C0.P) (t:=90) (e:=5) (by kernel_rfl) a) .nil)) (ih m b _ h)
    ·intro h;obtain rfl:=b9 h;exact bI (aK (hs:=[.run 1,.val (.int .i64 (n3746:Int)),.dec true,.run 3,.val (.int .i64 (n3746:Int)),.run 1,.val g,.val (.int .u8 l),.dec false,.run 1,.aM]) (want:=[3]) (by kernel_rfl) (.cons (dP f)<|.cons j<|.cons i<|.cons (cV (P:=C0.P) (t:=90) (e:=5) (by kernel_rfl) a)<|.cons (decide_eq_true d)<|.cons (cV (P:=C0.P) (t:=90) (e:=5) (by kernel_rfl) a) .nil)) (by kernel_rfl)
   ·intro h;obtain rfl:=b9 h;exact bI (aK (hs:=[.run 1,.val (.int .i64 (n3746:Int)),.dec false,.run 2,.aM]) (want:=[3]) (by kernel_rfl) (.cons (decide_eq_false d)<|.cons (cV (P:=C0.P) (t:=90) (e:=5) (by kernel_rfl) a) .nil)) (by kernel_rfl)
def rN (R:Nat)(a:AV)(b:St):Option (AV×St):=
 (iE R R a b).bind fun(c,d)=>
 some (c,d)
theorem CB {R:Nat}(n:Nat){a:AV}{b:St}{r:AV×St}(h:rN R a b=some r):
 oE 36 bK R n 58 [1,1,0] [(3,a)] b .normal [(3,r.1)] r.2:=by
 revert h;unfold rN;refine aA fun o c=>?_;obtain⟨d,e⟩:=o;intro h;obtain rfl:=b9 h;exact aK (hs:=[.aM,.abs [3] (.exit 0) [(3,d)] e]) (want:=[3]) (by kernel_rfl) (aG (bY (Bz R n R a b _ c)) eE)
def pQ (R:Nat)(a:AV)(b:St):Option (St):=
 (lenOf a).bind fun n3786=>
 (bA C0.P 90 a (.int .i64 (IntKind.wrap .i64 ((n3786:Int) - 1)))).bind fun c=>
 (loadAt C0.P b 5 c).bind fun d=>
 (dN .u8 d).bind fun e=>
 (storeAt C0.P b 5 c (.int .u8 (IntKind.wrap .u8 (e+1)))).bind fun f=>
 some f
theorem BS {R:Nat}(n:Nat){a:AV}{b:St}{r:St}(h:pQ R a b=some r):
 oE 36 bK R n 58 [1,1,1,0,1] [(3,a),(25,(.bool true))] b .normal [] r:=by
 revert h;unfold pQ;refine aA fun n3786 f=>aA fun c d=>aA fun m g=>aA fun i j=>?_
 obtain rfl:=bE j;refine aA fun k l=>?_;intro h;obtain rfl:=b9 h;exact aK (hs:=[.aM,.run 2,.val (.int .i64 (n3786:Int)),.run 1,.val c,.val (.int .u8 i),.run 1,.val c,.cA AV.undef k]) (want:=[]) (by kernel_rfl) (aG (aN l)<|aG d<|aG g<|aG d<|aG (cV (P:=C0.P) (t:=90) (e:=5) (by kernel_rfl) f) eE)
def nP (R:Nat)(a:AV):Option (Unit):=
 some ()
theorem AU {R:Nat}(n:Nat){a:AV}(b:St){r:Unit}(h:nP R a=some r):
 oE 36 bK R n 58 [1,1,1,0,1] [(3,a),(25,(.bool false))] b .normal [] b:=by
 revert h;unfold nP;intro h;obtain rfl:=b9 h;exact aK (hs:=[.aM]) (want:=[]) (by kernel_rfl) .nil
def sN (R:Nat)(d:List UInt8)(e:St):Option (List UInt8×St):=
 (eV (C5 5 d) e).bind fun(f,g)=>
 (rN R f g).bind fun(a,b)=>
 (lenOf a).bind fun n3769=>
 if((n3769:Int)>0) then
  (pQ R a b).bind fun c=>
  (strOf c a).bind fun h=>
  some (h,c)
 else
  (nP R a).bind fun _=>
  (strOf b a).bind fun i=>
  some (i,b)
theorem A6 {R:Nat}(n:Nat){c:List UInt8}{d:St}{r:List UInt8×St}(h:sN R c d=some r):
 aR (aW C0 bK R (n+1)) false 58 [(.str c)] d (.str r.1) r.2:=by
 revert h;unfold sN;refine aA fun o f=>?_;obtain⟨g,i⟩:=o;refine aA fun o j=>?_;obtain⟨k,a⟩:=o;refine aA fun n3769 l=>?_;have q9001:=aG (cV (P:=C0.P) (t:=90) (e:=5) (by kernel_rfl) l)<|aG (CB n j)<|aG f eE
 let q8001:List Hint:=[.run 2,.cA g i,.run 1,.nW [3] .normal [(3,k)] a,.run 1,.val (.int .i64 (n3769:Int))]
 refine aU (fun b=>?_) (fun b=>?_)
 ·refine aA fun m p=>aA fun q s=>?_
  intro h;obtain rfl:=b9 h;exact dE (hs:=q8001 ++ [.dec true,.fT [3,25] .normal [] m,.run 1,.val (.str q),.run 1]) (by kernel_rfl) (aG (qB s)<|aG (BS n p)<|aG (decide_eq_true b) q9001)
 ·refine aA fun _o u=>aA fun v w=>?_
  intro h;obtain rfl:=b9 h;exact dE (hs:=q8001 ++ [.dec false,.fT [3,25] .normal [] a,.run 1,.val (.str v),.run 1]) (by kernel_rfl) (aG (qB w)<|aG (AU n a u)<|aG (decide_eq_false b) q9001)
structure uJ where
 n:Nat
 f56:Int→Bool→Int→List UInt8→AV→AV→St→Option (List UInt8×St)
def uJ.ok (R:uJ)(n:Nat):Prop:=(∀ m,n≤m→ ∀(a0:Int) (a1:Bool) (a2:Int) (a3:List UInt8) (a4:AV) (a5:AV) (st:St) (r:List UInt8×St),R.f56 a0 a1 a2 a3 a4 a5 st=some r→aR (aW C0 bK R.n m) false 56 [(.agg [.int .i64 a0,.bool a1,.int .i64 a2,.str a3,a4,a5])] st (.str r.1) r.2)
theorem uJ.ok.Lj {R:uJ}{n:Nat}(h:R.ok n):(∀ m,n≤m→ ∀(a0:Int) (a1:Bool) (a2:Int) (a3:List UInt8) (a4:AV) (a5:AV) (st:St) (r:List UInt8×St),R.f56 a0 a1 a2 a3 a4 a5 st=some r→aR (aW C0 bK R.n m) false 56 [(.agg [.int .i64 a0,.bool a1,.int .i64 a2,.str a3,a4,a5])] st (.str r.1) r.2):=h
def p7 (R:uJ)(a:AV)(b:List UInt8)(c:Int):Option (Bool):=
 some true
theorem yV {R:uJ}(n:Nat)(hR:R.ok n){a:AV}{b:List UInt8}{c:Int}(d:St){r:Bool}(h:p7 R a b c=some r):
 oE 72 bK R.n (n+2) 56 [1,1,0,1,0,1,1,1,1,0,1] [(1,a),(3,(.str b)),(12,(.int .i64 c)),(30,(.bool true))] d .normal [(30,.bool r)] d:=by
 revert h;unfold p7;intro h;obtain rfl:=b9 h;exact aK (hs:=[.aM]) (want:=[30]) (by kernel_rfl) .nil
def lG (R:uJ)(a:AV)(b:List UInt8)(c:Int):Option (Bool):=
 some true
theorem pT {R:uJ}(n:Nat)(hR:R.ok n){a:AV}{b:List UInt8}{c:Int}(d:St){r:Bool}(h:lG R a b c=some r):
 oE 72 bK R.n (n+2) 56 [1,1,0,1,0,1,1,1,1,1,1,0,1] [(1,a),(3,(.str b)),(12,(.int .i64 c)),(38,(.bool true))] d .normal [(38,.bool r)] d:=by
 revert h;unfold lG;intro h;obtain rfl:=b9 h;exact aK (hs:=[.aM]) (want:=[38]) (by kernel_rfl) .nil
def iK (R:uJ)(b:AV)(c:List UInt8)(d:Int)(m:Nat)(o:AV)(p:Int)(q:Int)(a:St):Option (List UInt8×St):=
 (shift b 5).bind fun e=>
 (loadAt C0.P a 22 e).bind fun f=>
 (bA C0.P 22 f (.int .i64 d)).bind fun g=>
 (loadAt C0.P a 9 g).bind fun h=>
 (eY h).bind fun i=>
 (rG R.n i a).bind fun(j,k)=>
 (lB c j).bind fun l=>
 some (l,k)
theorem pP {R:uJ}(n:Nat)(hR:R.ok n){a:AV}{b:List UInt8}{c:Int}{d:Nat}{e:AV}{f:Int}{g:Int}{i:St}{r:List UInt8×St}(h:iK R a b c d e f g i=some r):
 oE 72 bK R.n (n+2) 56 [1,1,0,1,0,1,1,1,1,1,1,1,0,0,1,0,0,1,1,0,0,1,1,0,1] [(1,a),(3,(.str b)),(4,(.int .i64 c)),(5,(.ref d 0)),(42,e),(43,(.int .i64 f)),(44,(.int .i64 g)),(55,(.bool true))] i .normal [(3,.str r.1)] r.2:=by
 revert h;unfold iK;refine aA fun j k=>aA fun l m=>aA fun p q=>aA fun A s=>aA fun t u=>?_
 obtain rfl:=cC u;refine aA fun o v=>?_;obtain⟨w,x⟩:=o;refine aA fun y z=>?_;intro h;obtain rfl:=b9 h;exact aK (hs:=[.aM,.run 1,.val j,.val l,.run 1,.val p,.val (.str t),.call (.str w) x,.val (.str y),.run 1]) (want:=[3]) (by kernel_rfl) (aG (fV z)<|aG (zY n v)<|aG s<|aG q<|aG m<|aG k eE)
def hJ (R:uJ)(b:AV)(a:List UInt8)(c:Int)(d:Nat)(e:AV)(f:Int)(g:Int):Option (List UInt8):=
 some a
theorem oY {R:uJ}(n:Nat)(hR:R.ok n){a:AV}{b:List UInt8}{c:Int}{d:Nat}{e:AV}{f:Int}{g:Int}(i:St){r:List UInt8}(h:hJ R a b c d e f g=some r):
 oE 72 bK R.n (n+2) 56 [1,1,0,1,0,1,1,1,1,1,1,1,0,0,1,0,0,1,1,0,0,1,1,0,1] [(1,a),(3,(.str b)),(4,(.int .i64 c)),(5,(.ref d 0)),(42,e),(43,(.int .i64 f)),(44,(.int .i64 g)),(55,(.bool false))] i .normal [(3,.str r)] i:=by
 revert h;unfold hJ;intro h;obtain rfl:=b9 h;exact aK (hs:=[.aM]) (want:=[3]) (by kernel_rfl) .nil
def kF (R:uJ)(d:AV)(i:List UInt8)(e:AV)(f:Int)(b:Int)(a:St):Option (List UInt8×St):=
 (bA C0.P 23 e (.int .i64 b)).bind fun j=>
 (loadAt C0.P a 25 j).bind fun k=>
 (aQ k).bind fun(l,m,n,o,p,q)=>
 (storeAt C0.P (St.push a (.cells 25 true [(.int .i64 0),(.bool false),(.int .i64 0),(.str []),AV.aF,AV.aF])) 25 (.ref (St.next a) 0) (.agg [(.int .i64 l),(.bool m),(.int .i64 n),(.str o),p,q])).bind fun c=>
 (lB i [1]).bind fun g=>
 (shift d 5).bind fun r=>
 (loadAt C0.P c 22 r).bind fun s=>
 (lenOf s).bind fun n4063=>
 if(b<(n4063:Int)) then
  (iK R d g b (St.next a) e f b c).bind fun(t,h)=>
  (loadAt C0.P h 25 (.ref (St.next a) 0)).bind fun u=>
  (aQ u).bind fun(v,w,x,y,z,A)=>
  (R.f56 v w x y z A h).bind fun(B,C)=>
  (lB t B).bind fun D=>
  some (D,C)
 else
  (hJ R d g b (St.next a) e f b).bind fun E=>
  (loadAt C0.P c 25 (.ref (St.next a) 0)).bind fun F=>
  (aQ F).bind fun(G,H,I,J,K,L)=>
  (R.f56 G H I J K L c).bind fun(M,N)=>
  (lB E M).bind fun O=>
  some (O,N)
theorem rV {R:uJ}(n:Nat)(hR:R.ok n){c:AV}{d:List UInt8}{f:AV}{g:Int}{i:Int}{j:St}{r:List UInt8×St}(h:kF R c d f g i j=some r):
 oE 72 bK R.n (n+2) 56 [1,1,0,1,0,1,1,1,1,1,1,1,0,0,1,0,0,1,1,0] [(1,c),(3,(.str d)),(42,f),(43,(.int .i64 g)),(44,(.int .i64 i))] j .normal [(3,.str r.1)] r.2:=by
 revert h;unfold kF;refine aA fun B C=>aA fun b3 D=>aA fun o E=>?_
 obtain⟨F,G,H,I,J,K⟩:=o;obtain rfl:=aO E;refine aA fun a L=>aA fun M N=>aA fun O Q=>aA fun S T=>aA fun n4063 U=>?_
 have q9002:=aG (cV (P:=C0.P) (t:=22) (e:=9) (by kernel_rfl) U)<|aG T<|aG Q<|aG (fV N)<|aG (aN L)<|aG D<|aG C eE
 let q8002:List Hint:=[.aM,.run 1,.val B,.val (bD F G H I J K),.run 2,.cA AV.undef a,.run 1,.val (.str M),.run 2,.val O,.val S,.val (.int .i64 (n4063:Int))]
 refine aU (fun b=>?_) (fun b=>?_)
 ·refine aA fun o V=>?_;obtain⟨W,k⟩:=o;refine aA fun b4 X=>aA fun o Y=>?_
  obtain⟨l,m,p,q,s,u⟩:=o;obtain rfl:=aO Y;refine aA fun o Z=>?_;obtain⟨a0,a1⟩:=o;refine aA fun a2 a3=>?_;intro h;obtain rfl:=b9 h;exact aK (hs:=q8002 ++ [.dec true,.fT [1,3,4,5,42,43,44,55] .normal [(3,(.str W))] k,.run 1,.val (bD l m p q s u),.call (.str a0) a1,.val (.str a2),.run 1]) (want:=[3]) (by kernel_rfl) (aG (fV a3)<|aG (hR.Lj (n+2) (by omega) l m p q s u k _ Z)<|aG X<|aG (pP n hR V)<|aG (decide_eq_true b) q9002)
 ·refine aA fun a4 a5=>aA fun b5 a6=>aA fun o a7=>?_
  obtain⟨v,w,x,y,z,A⟩:=o;obtain rfl:=aO a7;refine aA fun o a8=>?_;obtain⟨a9,b0⟩:=o;refine aA fun b1 b2=>?_;intro h;obtain rfl:=b9 h;exact aK (hs:=q8002 ++ [.dec false,.fT [1,3,4,5,42,43,44,55] .normal [(3,(.str a4))] a,.run 1,.val (bD v w x y z A),.call (.str a9) b0,.val (.str b1),.run 1]) (want:=[3]) (by kernel_rfl) (aG (fV b2)<|aG (hR.Lj (n+2) (by omega) v w x y z A a _ a8)<|aG a6<|aG (oY n hR a a5)<|aG (decide_eq_false b) q9002)
def gP (R : uJ) (c : AV) (d : AV) (a : Int) : Nat → List UInt8 → Int → St → Option ((List UInt8 × St))
 | 0,_,_,_=>none
 | r + 1, e, b, f =>
   if(b<a) then
    (kF R c e d a b f).bind fun(g,h)=>
    gP R c d a r g (IntKind.wrap .i64 (b+1)) h
   else
    some (e,f)
def l8 (o:(List UInt8×St)):cE×List (Nat×AV)×St:=match o with
 | (a0,a1)=>((.exit 1),[(3,.str a0)],a1)
theorem uT (R:uJ)(n:Nat)(hR:R.ok n)(e:AV)(f:AV)(g:Int):∀(r:Nat) (b:List UInt8) (a:Int) (c:St) (o:(List UInt8×St)),gP R e f g r b a c=some o →
 jL 72 (jA (fun fr k=>cZ C0 (aW C0 bK R.n (n+2)) 56 R.n none (dA C0.P 56 [1,1,0,1,0,1,1,1,1,1,1,1,0,0,1,0,0]) fr k) r) (dI (dA C0.P 56 [1,1,0,1,0,1,1,1,1,1,1,1,0,0,1,0,0])) [(1,e),(42,f),(43,(.int .i64 g)),(3,(.str b)),(44,(.int .i64 a))] c (l8 o).1 (l8 o).2.1 (l8 o).2.2:=by
 intro r
 induction r with
 | zero=>intro b a c o h; exact nomatch h
 | succ r ih =>
   intro b a c o
   unfold gP;refine aU (fun d=>?_) (fun d=>?_)
   ·refine aA fun o l=>?_;obtain⟨i,j⟩:=o;intro h;exact cS (aK (hs:=[.dec true,.aM,.nW [1,3,42,43,44] .normal [(3,(.str i))] j,.run 2]) (want:=[1,42,43,3,44]) (by kernel_rfl) (.cons (rV n hR l)<|.cons (decide_eq_true d) .nil)) (ih i (IntKind.wrap .i64 (a+1)) j _ h)
   ·intro h;obtain rfl:=b9 h;exact bI (aK (hs:=[.dec false,.aM]) (want:=[3]) (by kernel_rfl) (.cons (decide_eq_false d) .nil)) (by kernel_rfl)
def dV (R:uJ)(a:AV)(b:List UInt8)(c:AV)(d:Int)(e:St):Option (List UInt8×St):=
 (gP R a c d R.n b 0 e).bind fun(f,g)=>
 some (f,g)
theorem iQ {R:uJ}(n:Nat)(hR:R.ok n){a:AV}{b:List UInt8}{c:AV}{d:Int}{e:St}{r:List UInt8×St}(h:dV R a b c d e=some r):
 oE 72 bK R.n (n+2) 56 [1,1,0,1,0,1,1,1,1,1,1,1,0,0,1] [(1,a),(3,(.str b)),(42,c),(43,(.int .i64 d)),(44,(.int .i64 0))] e .normal [(3,.str r.1)] r.2:=by
 revert h;unfold dV;refine aA fun o f=>?_;obtain⟨g,i⟩:=o;intro h;obtain rfl:=b9 h;exact aK (hs:=[.aM,.abs [1,42,43,3,44] (.exit 1) [(3,(.str g))] i]) (want:=[3]) (by kernel_rfl) (aG (bY (uT R n hR a c d R.n b 0 e _ f)) eE)
def iC (R:uJ)(b:AV)(c:List UInt8)(a:Int):Option (Bool):=
 if(a=6) then
  some true
 else
  some false
theorem oL {R:uJ}(n:Nat)(hR:R.ok n){b:AV}{c:List UInt8}{d:Int}(e:St){r:Bool}(h:iC R b c d=some r):
 oE 72 bK R.n (n+2) 56 [1,1,0,1,0,1,1,1,1,1,1,0,1] [(1,b),(3,(.str c)),(12,(.int .i64 d)),(38,(.bool false))] e .normal [(38,.bool r)] e:=by
 revert h;unfold iC;refine aU (fun a=>?_) (fun a=>?_)
 ·intro h;obtain rfl:=b9 h;exact aK (hs:=[.aM,.dec true,.run 1]) (want:=[38]) (by kernel_rfl) (aG (eG a) eE)
 ·intro h;obtain rfl:=b9 h;exact aK (hs:=[.aM,.dec false,.run 1]) (want:=[38]) (by kernel_rfl) (aG (dP a) eE)
def lD (R:uJ)(b:AV)(c:List UInt8)(a:Int):Option (Bool):=
 if(a=4) then
  some true
 else
  some false
theorem xM {R:uJ}(n:Nat)(hR:R.ok n){b:AV}{c:List UInt8}{d:Int}(e:St){r:Bool}(h:lD R b c d=some r):
 oE 72 bK R.n (n+2) 56 [1,1,0,1,0,1,1,1,1,0,1] [(1,b),(3,(.str c)),(12,(.int .i64 d)),(30,(.bool false))] e .normal [(30,.bool r)] e:=by
 revert h;unfold lD;refine aU (fun a=>?_) (fun a=>?_)
 ·intro h;obtain rfl:=b9 h;exact aK (hs:=[.aM,.dec true,.run 1]) (want:=[30]) (by kernel_rfl) (aG (eG a) eE)
 ·intro h;obtain rfl:=b9 h;exact aK (hs:=[.aM,.dec false,.run 1]) (want:=[30]) (by kernel_rfl) (aG (dP a) eE)
def BJ (R : uJ) (k : Int) (l : Bool) (m : Int) (o : List UInt8) (p : AV) (q : AV) (r : St) : Option (List UInt8 × St) :=
 (oQ 25 (.agg [(.int .i64 k),(.bool l),(.int .i64 m),(.str o),p,q]) r).bind fun(b,e)=>
 (shift b 0).bind fun f=>
 (loadAt C0.P e 3 f).bind fun s=>
 (dN .i64 s).bind fun t=>
 (eV (aY C0.P (C0.cQ 56) 90 1 [(0,(.int .u8 (IntKind.wrap .u8 t)))]) e).bind fun(u,a)=>
 (strOf a u).bind fun c=>
 (loadAt C0.P a 3 f).bind fun v=>
 (dN .i64 v).bind fun d=>
 if(d=1) then
  (shift b 1).bind fun w=>
  (loadAt C0.P a 4 w).bind fun x=>
  (zP x).bind fun y=>
  if y=true then
   (lB c [1]).bind fun z=>
   some (z,a)
  else
   (lB c [0]).bind fun A=>
   some (A,a)
 else
  if(d=2) then
   (shift b 2).bind fun B=>
   (loadAt C0.P a 2 B).bind fun C=>
   (dN .i64 C).bind fun D=>
   (tX R.n (PE .u64 (IntKind.wrap .u64 D) 9223372036854775808) a).bind fun(E,F)=>
   (lB c E).bind fun G=>
   some (G,F)
  else
   if (d = 3) then
    (p7 R b c d).bind fun H=>
    if H=true then
     (shift b 3).bind fun I=>
     (loadAt C0.P a 9 I).bind fun J=>
     (eY J).bind fun K=>
     (rG R.n K a).bind fun(L,M)=>
     (lB c L).bind fun N=>
     some (N,M)
    else
     if(d=5) then
      (lG R b c d).bind fun O=>
      if O=true then
       (shift b 4).bind fun Q=>
       (loadAt C0.P a 23 Q).bind fun g=>
       (lenOf g).bind fun n3901=>
       (dV R b c g (n3901:Int) a).bind fun(S,T)=>
       (lB S [0]).bind fun U=>
       some (U,T)
      else
       some (c,a)
     else
      (iC R b c d).bind fun V=>
      if V=true then
       (shift b 4).bind fun W=>
       (loadAt C0.P a 23 W).bind fun h=>
       (lenOf h).bind fun n4145=>
       (dV R b c h (n4145:Int) a).bind fun(X,Y)=>
       (lB X [0]).bind fun Z=>
       some (Z,Y)
      else
       some (c,a)
   else
    (lD R b c d).bind fun a0=>
    if a0=true then
     (shift b 3).bind fun a1=>
     (loadAt C0.P a 9 a1).bind fun a2=>
     (eY a2).bind fun a3=>
     (rG R.n a3 a).bind fun(a4,a5)=>
     (lB c a4).bind fun a6=>
     some (a6,a5)
    else
     if(d=5) then
      (lG R b c d).bind fun a7=>
      if a7=true then
        (shift b 4).bind fun a8=>
        (loadAt C0.P a 23 a8).bind fun i=>
        (lenOf i).bind fun n4184=>
        (dV R b c i (n4184:Int) a).bind fun(a9,b0)=>
        (lB a9 [0]).bind fun b1=>
        some (b1,b0)
      else
        some (c,a)
     else
      (iC R b c d).bind fun b2=>
      if b2=true then
        (shift b 4).bind fun b3=>
        (loadAt C0.P a 23 b3).bind fun j=>
        (lenOf j).bind fun n4198=>
        (dV R b c j (n4198:Int) a).bind fun(b4,b5)=>
        (lB b4 [0]).bind fun b6=>
        some (b6,b5)
      else
        some (c,a)
theorem FV {R : uJ} (n : Nat) (hR : R.ok n) {s : Int} {u : Bool} {v : Int} {w : List UInt8} {x : AV} {y : AV} {z : St} {r : List UInt8 × St} (h : BJ R s u v w x y z = some r):
 aR (aW C0 bK R.n (n+3)) false 56 [(.agg [(.int .i64 s),(.bool u),(.int .i64 v),(.str w),x,y])] z (.str r.1) r.2:=by
 revert h;unfold BJ;refine aA fun o F=>?_;obtain⟨G,H⟩:=o;refine aA fun A B=>aA fun h6 I=>aA fun J K=>?_
 obtain rfl:=bE K;refine aA fun o L=>?_;obtain⟨M,a⟩:=o;refine aA fun N O=>aA fun h7 Q=>aA fun S T=>?_
 obtain rfl:=bE T;have q9003:=aG Q<|aG B<|aG (qB O)<|aG L<|aG I<|aG B<|aG (pE F) eE
 let q8003:List Hint:=[.cA G H,.run 1,.val A,.val (.int .i64 J),.run 1,.cA M a,.val (.str N),.run 1,.val A,.val (.int .i64 S),.aM]
 refine aU (fun b=>?_) (fun b=>?_)
 ·refine aA fun C D=>aA fun h8 E=>aA fun h9 U=>?_
  obtain rfl:=BE U;refine aU (fun c=>?_) (fun c=>?_)
  ·subst c;refine aA fun V W=>?_;intro h;obtain rfl:=b9 h;exact dE (hs:=q8003 ++ [.dec true,.run 1,.aM,.val C,.val (.bool true),.aM,.run 1,.val (.str V),.run 1]) (by kernel_rfl) (aG (fV W)<|aG E<|aG D<|aG (eG b) q9003)
  ·obtain rfl:=bF c;refine aA fun X Y=>?_;intro h;obtain rfl:=b9 h;exact dE (hs:=q8003 ++ [.dec true,.run 1,.aM,.val C,.val (.bool false),.aM,.run 1,.val (.str X),.run 1]) (by kernel_rfl) (aG (fV Y)<|aG E<|aG D<|aG (eG b) q9003)
 ·have q9004:=aG (dP b) q9003
  let q8004:List Hint:=q8003 ++ [.dec false,.run 1,.aM]
  refine aU (fun d=>?_) (fun d=>?_)
  ·refine aA fun Z a0=>aA fun i0 a1=>aA fun a2 a3=>?_
   obtain rfl:=bE a3;refine aA fun o a4=>?_;obtain⟨a5,a6⟩:=o;refine aA fun a7 a8=>?_;intro h;obtain rfl:=b9 h;exact dE (hs:=q8004 ++ [.dec true,.run 1,.aM,.run 1,.val Z,.val (.int .i64 a2),.run 2,.call (.str a5) a6,.val (.str a7),.run 1]) (by kernel_rfl) (aG (fV a8)<|aG (F4 (n+1) a4)<|aG a1<|aG a0<|aG (eG d) q9004)
  ·have q9005:=aG (dP d) q9004
   let q8005:List Hint:=q8004 ++ [.dec false,.run 1,.aM]
   refine aU (fun f=>?_) (fun f=>?_)
   ·refine aA fun i1 a9=>?_;have q9006:=aG (yV n hR a a9)<|aG (eG f) q9005
    let q8006:List Hint:=q8005 ++ [.dec true,.run 1]
    refine aU (fun g=>?_) (fun g=>?_)
    ·subst g;refine aA fun b0 b1=>aA fun i2 b2=>aA fun b3 b4=>?_
     obtain rfl:=cC b4;refine aA fun o b5=>?_;obtain⟨b6,b7⟩:=o;refine aA fun b8 c0=>?_;intro h;obtain rfl:=b9 h;exact dE (hs:=q8006 ++ [.fT [1,3,12,30] .normal [(30,(.bool true))] a,.aM,.run 1,.val b0,.val (.str b3),.call (.str b6) b7,.val (.str b8),.run 1]) (by kernel_rfl) (aG (fV c0)<|aG (zY n b5)<|aG b2<|aG b1 q9006)
    ·obtain rfl:=bF g;let q8007:List Hint:=q8006 ++ [.fT [1,3,12,30] .normal [(30,(.bool false))] a,.aM]
     refine aU (fun i=>?_) (fun i=>?_)
     ·refine aA fun i3 c1=>?_;have q9007:=aG (pT n hR a c1)<|aG (eG i) q9006
      refine aU (fun j=>?_) (fun j=>?_)
      ·subst j;refine aA fun c2 c3=>aA fun c4 c5=>aA fun n3901 c6=>aA fun o c7=>?_
       obtain⟨c8,c9⟩:=o;refine aA fun d0 d1=>?_;intro h;obtain rfl:=b9 h;exact dE (hs:=q8007 ++ [.dec true,.run 1,.fT [1,3,12,38] .normal [(38,(.bool true))] a,.aM,.val c2,.val c4,.val (.int .i64 (n3901:Int)),.run 1,.nW [1,3,42,43,44] .normal [(3,(.str c8))] c9,.run 1,.val (.str d0),.run 1]) (by kernel_rfl) (aG (fV d1)<|aG (iQ n hR c7)<|aG (cV (P:=C0.P) (t:=23) (e:=25) (by kernel_rfl) c6)<|aG c5<|aG c3 q9007)
      ·obtain rfl:=bF j;intro h;obtain rfl:=b9 h;exact dE (hs:=q8007 ++ [.dec true,.run 1,.fT [1,3,12,38] .normal [(38,(.bool false))] a,.aM,.run 2]) (by kernel_rfl) (q9007)
     ·refine aA fun i4 d2=>?_;have q9008:=aG (oL n hR a d2)<|aG (dP i) q9006
      refine aU (fun k=>?_) (fun k=>?_)
      ·subst k;refine aA fun d3 d4=>aA fun d5 d6=>aA fun n4145 d7=>aA fun o d8=>?_
       obtain⟨d9,e0⟩:=o;refine aA fun e1 e2=>?_;intro h;obtain rfl:=b9 h;exact dE (hs:=q8007 ++ [.dec false,.run 1,.fT [1,3,12,38] .normal [(38,(.bool true))] a,.aM,.val d3,.val d5,.val (.int .i64 (n4145:Int)),.run 1,.nW [1,3,42,43,44] .normal [(3,(.str d9))] e0,.run 1,.val (.str e1),.run 1]) (by kernel_rfl) (aG (fV e2)<|aG (iQ n hR d8)<|aG (cV (P:=C0.P) (t:=23) (e:=25) (by kernel_rfl) d7)<|aG d6<|aG d4 q9008)
      ·obtain rfl:=bF k;intro h;obtain rfl:=b9 h;exact dE (hs:=q8007 ++ [.dec false,.run 1,.fT [1,3,12,38] .normal [(38,(.bool false))] a,.aM,.run 2]) (by kernel_rfl) (q9008)
   ·refine aA fun i5 e3=>?_;have q9009:=aG (xM n hR a e3)<|aG (dP f) q9005
    let q8008:List Hint:=q8005 ++ [.dec false,.run 1]
    refine aU (fun l=>?_) (fun l=>?_)
    ·subst l;refine aA fun e4 e5=>aA fun i6 e6=>aA fun e7 e8=>?_
     obtain rfl:=cC e8;refine aA fun o e9=>?_;obtain⟨f0,f1⟩:=o;refine aA fun f2 f3=>?_;intro h;obtain rfl:=b9 h;exact dE (hs:=q8008 ++ [.fT [1,3,12,30] .normal [(30,(.bool true))] a,.aM,.run 1,.val e4,.val (.str e7),.call (.str f0) f1,.val (.str f2),.run 1]) (by kernel_rfl) (aG (fV f3)<|aG (zY n e9)<|aG e6<|aG e5 q9009)
    ·obtain rfl:=bF l;let q8009:List Hint:=q8008 ++ [.fT [1,3,12,30] .normal [(30,(.bool false))] a,.aM]
     refine aU (fun m=>?_) (fun m=>?_)
     ·refine aA fun i7 f4=>?_;have q9010:=aG (pT n hR a f4)<|aG (eG m) q9009
      refine aU (fun p=>?_) (fun p=>?_)
      ·subst p;refine aA fun f5 f6=>aA fun f7 f8=>aA fun n4184 f9=>aA fun o g0=>?_
       obtain⟨g1,g2⟩:=o;refine aA fun g3 g4=>?_;intro h;obtain rfl:=b9 h;exact dE (hs:=q8009 ++ [.dec true,.run 1,.fT [1,3,12,38] .normal [(38,(.bool true))] a,.aM,.val f5,.val f7,.val (.int .i64 (n4184:Int)),.run 1,.nW [1,3,42,43,44] .normal [(3,(.str g1))] g2,.run 1,.val (.str g3),.run 1]) (by kernel_rfl) (aG (fV g4)<|aG (iQ n hR g0)<|aG (cV (P:=C0.P) (t:=23) (e:=25) (by kernel_rfl) f9)<|aG f8<|aG f6 q9010)
      ·obtain rfl:=bF p;intro h;obtain rfl:=b9 h;exact dE (hs:=q8009 ++ [.dec true,.run 1,.fT [1,3,12,38] .normal [(38,(.bool false))] a,.aM,.run 2]) (by kernel_rfl) (q9010)
     ·refine aA fun i9 g5=>?_;have q9011:=aG (oL n hR a g5)<|aG (dP m) q9009
      refine aU (fun q=>?_) (fun q=>?_)
      ·subst q;refine aA fun g6 g7=>aA fun g8 g9=>aA fun n4198 h0=>aA fun o h1=>?_
       obtain⟨h2,h3⟩:=o;refine aA fun h4 h5=>?_;intro h;obtain rfl:=b9 h;exact dE (hs:=q8009 ++ [.dec false,.run 1,.fT [1,3,12,38] .normal [(38,(.bool true))] a,.aM,.val g6,.val g8,.val (.int .i64 (n4198:Int)),.run 1,.nW [1,3,42,43,44] .normal [(3,(.str h2))] h3,.run 1,.val (.str h4),.run 1]) (by kernel_rfl) (aG (fV h5)<|aG (iQ n hR h1)<|aG (cV (P:=C0.P) (t:=23) (e:=25) (by kernel_rfl) h0)<|aG g9<|aG g7 q9011)
      ·obtain rfl:=bF q;intro h;obtain rfl:=b9 h;exact dE (hs:=q8009 ++ [.dec false,.run 1,.fT [1,3,12,38] .normal [(38,(.bool false))] a,.aM,.run 2]) (by kernel_rfl) (q9011)
def Mv (R:Nat):Nat→uJ
 | 0=>⟨R,(fun _ _ _ _ _ _ _=>none)⟩
 | k+1=>⟨R,(fun a0 a1 a2 a3 a4 a5 st=>BJ (Mv R k) a0 a1 a2 a3 a4 a5 st)⟩
theorem MI (R:Nat):∀ k,(Mv R k).n=R
 | 0=>rfl
 | _+1=>rfl
theorem Jk (R:Nat):∀ k n,3 * k≤n→(Mv R k).ok n
 | 0,n,_=>(fun _ _ _ _ _ _ _ _ _ _ h=>nomatch h)
 | k + 1, n, hn =>
   fun m hm a0 a1 a2 a3 a4 a5 st r h=>by
    obtain⟨j,rfl⟩:∃ j,m=j+3:=⟨m - 3,by omega⟩
    have:=FV j (Jk R k j (by omega)) h
    rw[MI] at this
    exact this
def uG (R:Nat)(a0:Int)(a1:Bool)(a2:Int)(a3:List UInt8)(a4:AV)(a5:AV)(st:St):Option (List UInt8×St):=BJ (Mv R 4000) a0 a1 a2 a3 a4 a5 st
theorem wB {R:Nat}(n:Nat){a0:Int}{a1:Bool}{a2:Int}{a3:List UInt8}{a4:AV}{a5:AV}{st:St}{r:List UInt8×St}(h:uG R a0 a1 a2 a3 a4 a5 st=some r):aR (aW C0 bK R (n+12003)) false 56 [(.agg [.int .i64 a0,.bool a1,.int .i64 a2,.str a3,a4,a5])] st (.str r.1) r.2:=by
 have:=FV (n+12000) (Jk R 4000 _ (by omega)) h
 rw[MI] at this
 exact this
def wL (R:Nat)(k:Int)(l:Bool)(m:Int)(n:List UInt8)(o:AV)(p:AV)(q:St):Option (List UInt8×List UInt8×St):=
 (oQ 25 (.agg [(.int .i64 k),(.bool l),(.int .i64 m),(.str n),o,p]) q).bind fun(h,a)=>
 (loadAt C0.P (St.push a (.cells 33 true [(.str []),(.str [])])) 25 h).bind fun r=>
 (aQ r).bind fun(b,c,d,e,f,g)=>
 (uG R b c d e f g (St.push a (.cells 33 true [(.str []),(.str [])]))).bind fun(s,i)=>
 (loadAt C0.P i 25 h).bind fun t=>
 if AV.beq t (.agg [(.int .i64 b),(.bool c),(.int .i64 d),(.str e),f,g])=true then
  (uG R b c d e f g i).bind fun(u,v)=>
  (sN R u v).bind fun(w,x)=>
  (storeAt C0.P x 33 (.ref (St.next a) 0) (.agg [(.str s),(.str w)])).bind fun j=>
  (loadAt C0.P j 33 (.ref (St.next a) 0)).bind fun y=>
  (gU y).bind fun(z,A)=>
  some (z,A,j)
 else
  none
theorem Ft {R:Nat}(n:Nat){a:Int}{b:Bool}{c:Int}{d:List UInt8}{e:AV}{f:AV}{g:St}{r:List UInt8×List UInt8×St}(h:wL R a b c d e f g=some r):
 aR (aW C0 bK R (n+12004)) false 57 [(.agg [(.int .i64 a),(.bool b),(.int .i64 c),(.str d),e,f])] g (.agg [.str r.1,.str r.2.1]) r.2.2:=by
 revert h;unfold wL;refine aA fun o t=>?_;obtain⟨u,v⟩:=o;refine aA fun N i=>aA fun o w=>?_
 obtain⟨j,k,l,m,p,q⟩:=o;obtain rfl:=aO w;refine aA fun o x=>?_;obtain⟨y,z⟩:=o;refine aA fun O A=>?_;refine aU (fun s=>?_) (fun s=>?_)
 ·refine aA fun o B=>?_;obtain⟨C,D⟩:=o;refine aA fun o E=>?_;obtain⟨F,G⟩:=o;refine aA fun H I=>aA fun P J=>aA fun o K=>?_
  obtain⟨L,M⟩:=o;obtain rfl:=eJ K;intro h;obtain rfl:=b9 h;exact dE (hs:=[.cA u v,.run 1,.val (bD j k l m p q),.val (bD j k l m p q),.call (.str y) z,.call (.str C) D,.call (.str F) G,.run 1,.cA AV.undef H,.val (mK L M)]) (by kernel_rfl) (aG J<|aG (aN I)<|aG (A6 (n+12002) E)<|aG (wB n B)<|aG (jQ A s)<|aG (wB n x)<|aG i<|aG i<|aG (pE t) eE)
 ·exact fun h=>nomatch h
def yW (R : Nat) (c : List UInt8) (l : Int) (m : Bool) (n : Int) (o : List UInt8) (p : AV) (q : AV) (r : St) : Option (List UInt8 × List UInt8 × Bool × St) :=
 (oQ 25 (.agg [(.int .i64 l),(.bool m),(.int .i64 n),(.str o),p,q]) r).bind fun(e,a)=>
 (loadAt C0.P (St.push a (.cells 33 true [(.str []),(.str [])])) 25 e).bind fun s=>
 (aQ s).bind fun(t,u,v,w,x,y)=>
 (uG R t u v w x y (St.push a (.cells 33 true [(.str []),(.str [])]))).bind fun(d,b)=>
 if(c=[61]) then
  (loadAt C0.P b 25 e).bind fun z=>
  (aQ z).bind fun(A,B,C,D,E,F)=>
  (wL R A B C D E F b).bind fun(G,H,I)=>
  (storeAt C0.P I 33 (.ref (St.next a) 0) (.agg [(.str G),(.str H)])).bind fun f=>
  (loadAt C0.P f 33 (.ref (St.next a) 0)).bind fun J=>
  (gU J).bind fun(K,L)=>
  some (K,L,true,f)
 else
  if(c=[60]) then
   (storeAt C0.P b 33 (.ref (St.next a) 0) (.agg [(.str []),(.str d)])).bind fun g=>
   (loadAt C0.P g 33 (.ref (St.next a) 0)).bind fun M=>
   (gU M).bind fun(N,O)=>
   some (N,O,true,g)
  else
   if(c=[60,61]) then
    (sN R d b).bind fun(Q,S)=>
    (storeAt C0.P S 33 (.ref (St.next a) 0) (.agg [(.str []),(.str Q)])).bind fun h=>
    (loadAt C0.P h 33 (.ref (St.next a) 0)).bind fun T=>
    (gU T).bind fun(U,V)=>
    some (U,V,true,h)
   else
    if(c=[62]) then
     (sN R d b).bind fun(W,X)=>
     (storeAt C0.P X 33 (.ref (St.next a) 0) (.agg [(.str W),(.str [])])).bind fun i=>
     (loadAt C0.P i 33 (.ref (St.next a) 0)).bind fun Y=>
     (gU Y).bind fun(Z,a0)=>
     some (Z,a0,true,i)
    else
     if(c=[62,61]) then
      (storeAt C0.P b 33 (.ref (St.next a) 0) (.agg [(.str d),(.str [])])).bind fun j=>
      (loadAt C0.P j 33 (.ref (St.next a) 0)).bind fun a1=>
      (gU a1).bind fun(a2,a3)=>
      some (a2,a3,true,j)
     else
      (storeAt C0.P b 33 (.ref (St.next a) 0) (.agg [(.str []),(.str [])])).bind fun k=>
      (loadAt C0.P k 33 (.ref (St.next a) 0)).bind fun a4=>
      (gU a4).bind fun(a5,a6)=>
      some (a5,a6,false,k)
theorem H9 {R : Nat} (n : Nat) {f : List UInt8} {g : Int} {i : Bool} {j : Int} {k : List UInt8} {l : AV} {m : AV} {p : St} {r : List UInt8 × List UInt8 × Bool × St} (h : yW R f g i j k l m p = some r):
 aR (aW C0 bK R (n+12005)) false 27 [(.str f),(.agg [(.int .i64 g),(.bool i),(.int .i64 j),(.str k),l,m])] p (.tuple [(.agg [.str r.1,.str r.2.1]),(.bool r.2.2.1)]) r.2.2.2:=by
 revert h;unfold yW;refine aA fun o q=>?_;obtain⟨s,t⟩:=o;refine aA fun d5 u=>aA fun o v=>?_
 obtain⟨w,x,y,z,A,B⟩:=o;obtain rfl:=aO v;refine aA fun o C=>?_;obtain⟨D,E⟩:=o;have q9012:=aG (wB (n+1) C)<|aG u<|aG (pE q) eE
 let q8010:List Hint:=[.cA s t,.run 2,.val (bD w x y z A B),.call (.str D) E,.run 2,.aM]
 refine aU (fun c=>?_) (fun c=>?_)
 ·refine aA fun d6 F=>aA fun o G=>?_
  obtain⟨H,I,J,K,L,M⟩:=o;obtain rfl:=aO G;refine aA fun o N=>?_;obtain⟨O,P,Q⟩:=o;refine aA fun S T=>aA fun d7 U=>aA fun o V=>?_
  obtain⟨W,X⟩:=o;obtain rfl:=eJ V;intro h;obtain rfl:=b9 h;exact dE (hs:=q8010 ++ [.dec true,.run 1,.aM,.val (bD H I J K L M),.call (mK O P) Q,.cA AV.undef S,.run 1,.val (mK W X)]) (by kernel_rfl) (aG U<|aG (aN T)<|aG (Ft n N)<|aG F<|aG (dM c) q9012)
 ·have q9013:=aG (cL c) q9012
  let q8011:List Hint:=q8010 ++ [.dec false,.run 1,.aM]
  refine aU (fun d=>?_) (fun d=>?_)
  ·refine aA fun Y Z=>aA fun d8 a0=>aA fun o a1=>?_
   obtain⟨a2,a3⟩:=o;obtain rfl:=eJ a1;intro h;obtain rfl:=b9 h;exact dE (hs:=q8011 ++ [.dec true,.run 1,.aM,.run 2,.cA AV.undef Y,.run 1,.val (mK a2 a3)]) (by kernel_rfl) (aG a0<|aG (aN Z)<|aG (dM d) q9013)
  ·have q9014:=aG (cL d) q9013
   let q8012:List Hint:=q8011 ++ [.dec false,.run 1,.aM]
   refine aU (fun a=>?_) (fun a=>?_)
   ·refine aA fun o a4=>?_;obtain⟨a5,a6⟩:=o;refine aA fun a7 a8=>aA fun d9 a9=>aA fun o b0=>?_
    obtain⟨b1,b2⟩:=o;obtain rfl:=eJ b0;intro h;obtain rfl:=b9 h;exact dE (hs:=q8012 ++ [.dec true,.run 1,.aM,.run 1,.call (.str a5) a6,.run 1,.cA AV.undef a7,.run 1,.val (mK b1 b2)]) (by kernel_rfl) (aG a9<|aG (aN a8)<|aG (A6 (n+12003) a4)<|aG (dM a) q9014)
   ·refine aU (fun b=>?_) (fun b=>?_)
    ·refine aA fun o b3=>?_;obtain⟨b4,b5⟩:=o;refine aA fun b6 b7=>aA fun e0 b8=>aA fun o c0=>?_
     obtain⟨c1,c2⟩:=o;obtain rfl:=eJ c0;intro h;obtain rfl:=b9 h;exact dE (hs:=q8012 ++ [.dec false,.run 1,.aM,.dec true,.run 1,.aM,.run 1,.call (.str b4) b5,.run 1,.cA AV.undef b6,.run 1,.val (mK c1 c2)]) (by kernel_rfl) (aG b8<|aG (aN b7)<|aG (A6 (n+12003) b3)<|aG (dM b)<|aG (cL a) q9014)
    ·refine aU (fun e=>?_) (fun e=>?_)
     ·refine aA fun c3 c4=>aA fun e1 c5=>aA fun o c6=>?_
      obtain⟨c7,c8⟩:=o;obtain rfl:=eJ c6;intro h;obtain rfl:=b9 h;exact dE (hs:=q8012 ++ [.dec false,.run 1,.aM,.dec false,.run 1,.aM,.dec true,.run 1,.aM,.run 2,.cA AV.undef c3,.run 1,.val (mK c7 c8)]) (by kernel_rfl) (aG c5<|aG (aN c4)<|aG (dM e)<|aG (cL b)<|aG (cL a) q9014)
     ·refine aA fun c9 d0=>aA fun e2 d1=>aA fun o d2=>?_
      obtain⟨d3,d4⟩:=o;obtain rfl:=eJ d2;intro h;obtain rfl:=b9 h;exact dE (hs:=q8012 ++ [.dec false,.run 1,.aM,.dec false,.run 1,.aM,.dec false,.run 1,.aM,.run 1,.cA AV.undef c9,.run 1,.val (mK d3 d4)]) (by kernel_rfl) (aG d1<|aG (aN d0)<|aG (cL e)<|aG (cL b)<|aG (cL a) q9014)
def uI (R : Nat) (a : List UInt8) : Option (List UInt8) :=
 if(a=[60]) then
  some [62]
 else
  if(a=[60,61]) then
   some [62,61]
  else
   if(a=[62]) then
    some [60]
   else
    if(a=[62,61]) then
     some [60,61]
    else
     some a
theorem F3 {R : Nat} (n : Nat) {e : List UInt8} (f : St) {r : List UInt8} (h : uI R e = some r):
 aR (aW C0 bK R (n+1)) false 79 [(.str e)] f (.str r) f:=by
 revert h;unfold uI;refine aU (fun c=>?_) (fun c=>?_)
 ·intro h;obtain rfl:=b9 h;exact dE (hs:=[.run 2,.aM,.dec true,.run 1,.aM,.run 1]) (by kernel_rfl) (aG (dM c) eE)
 ·have q9015:=aG (cL c) eE
  let q8013:List Hint:=[.run 2,.aM,.dec false,.run 1,.aM]
  refine aU (fun a=>?_) (fun a=>?_)
  ·intro h;obtain rfl:=b9 h;exact dE (hs:=q8013 ++ [.dec true,.run 1,.aM,.run 1]) (by kernel_rfl) (aG (dM a) q9015)
  ·refine aU (fun b=>?_) (fun b=>?_)
   ·intro h;obtain rfl:=b9 h;exact dE (hs:=q8013 ++ [.dec false,.run 1,.aM,.dec true,.run 1,.aM,.run 1]) (by kernel_rfl) (aG (dM b)<|aG (cL a) q9015)
   ·refine aU (fun d=>?_) (fun d=>?_)
    ·intro h;obtain rfl:=b9 h;exact dE (hs:=q8013 ++ [.dec false,.run 1,.aM,.dec false,.run 1,.aM,.dec true,.run 1,.aM,.run 1]) (by kernel_rfl) (aG (dM d)<|aG (cL b)<|aG (cL a) q9015)
    ·intro h;obtain rfl:=b9 h;exact dE (hs:=q8013 ++ [.dec false,.run 1,.aM,.dec false,.run 1,.aM,.dec false,.run 1,.aM,.run 2]) (by kernel_rfl) (aG (cL d)<|aG (cL b)<|aG (cL a) q9015)
def wV (R : Nat) (F : Int) (G : List UInt8) (H : Int) (I : Bool) (J : Int) (K : List UInt8) (L : AV) (M : AV) (N : AV) (O : AV) (Q : St) : Option (List UInt8 × List UInt8 × Int × Bool × Int × List UInt8 × AV × AV × Bool × St) :=
 (oQ 28 (.agg [(.int .i64 F),(.str G),(.int .i64 H),(.bool I),(.int .i64 J),(.str K),L,M,N,O]) Q).bind fun(c,a)=>
 (shift c 0).bind fun S=>
 (loadAt C0.P (St.push a (.cells 25 true [(.int .i64 0),(.bool false),(.int .i64 0),(.str []),AV.aF,AV.aF])) 3 S).bind fun T=>
 (dN .i64 T).bind fun U=>
 if (U = 6) then
  (shift c 8).bind fun l=>
  (loadAt C0.P (St.push a (.cells 25 true [(.int .i64 0),(.bool false),(.int .i64 0),(.str []),AV.aF,AV.aF])) 26 l).bind fun d=>
  (lenOf d).bind fun n4393=>
  if ((n4393 : Int) = 2) then
   (bA C0.P 26 d (.int .i64 0)).bind fun V=>
   (loadAt C0.P (St.push a (.cells 25 true [(.int .i64 0),(.bool false),(.int .i64 0),(.str []),AV.aF,AV.aF])) 28 V).bind fun W=>
   (aD W).bind fun(X,Y,Z,a0,a1,a2,a3,a4,a5,a6)=>
   (bA C0.P 26 d (.int .i64 1)).bind fun m=>
   (loadAt C0.P (St.push a (.cells 25 true [(.int .i64 0),(.bool false),(.int .i64 0),(.str []),AV.aF,AV.aF])) 28 m).bind fun a7=>
   (aD a7).bind fun(n,o,p,q,r,s,t,u,v,w)=>
   (storeAt C0.P (St.push (St.push (St.push a (.cells 25 true [(.int .i64 0),(.bool false),(.int .i64 0),(.str []),AV.aF,AV.aF])) (.cells 28 true [(.int .i64 0),(.str []),(.int .i64 0),(.bool false),(.int .i64 0),(.str []),AV.aF,AV.aF,AV.aF,AV.aF])) (.cells 28 true [(.int .i64 0),(.str []),(.int .i64 0),(.bool false),(.int .i64 0),(.str []),AV.aF,AV.aF,AV.aF,AV.aF])) 28 (.ref (St.next (St.push a (.cells 25 true [(.int .i64 0),(.bool false),(.int .i64 0),(.str []),AV.aF,AV.aF]))) 0) (.agg [(.int .i64 X),(.str Y),(.int .i64 Z),(.bool a0),(.int .i64 a1),(.str a2),a3,a4,a5,a6])).bind fun e=>
   (loadAt C0.P e 28 m).bind fun a8=>
   if AV.beq a8 (.agg [(.int .i64 n), (.str o), (.int .i64 p), (.bool q), (.int .i64 r), (.str s), t, u, v, w]) = true then
    (loadAt C0.P e 26 l).bind fun a9=>
    if AV.beq a9 d = true then
     (storeAt C0.P e 28 (.ref (St.next (St.push (St.push a (.cells 25 true [(.int .i64 0),(.bool false),(.int .i64 0),(.str []),AV.aF,AV.aF])) (.cells 28 true [(.int .i64 0),(.str []),(.int .i64 0),(.bool false),(.int .i64 0),(.str []),AV.aF,AV.aF,AV.aF,AV.aF]))) 0) (.agg [(.int .i64 n),(.str o),(.int .i64 p),(.bool q),(.int .i64 r),(.str s),t,u,v,w])).bind fun b=>
     (loadAt C0.P b 3 (.ref (St.next (St.push a (.cells 25 true [(.int .i64 0),(.bool false),(.int .i64 0),(.str []),AV.aF,AV.aF]))) 0)).bind fun b0=>
     (dN .i64 b0).bind fun x=>
     if(x=2) then
      (loadAt C0.P b 3 (.ref (St.next (St.push (St.push a (.cells 25 true [(.int .i64 0),(.bool false),(.int .i64 0),(.str []),AV.aF,AV.aF])) (.cells 28 true [(.int .i64 0),(.str []),(.int .i64 0),(.bool false),(.int .i64 0),(.str []),AV.aF,AV.aF,AV.aF,AV.aF]))) 0)).bind fun b1=>
      (dN .i64 b1).bind fun b2=>
      if(b2=1) then
       (loadAt C0.P b 9 (.ref (St.next (St.push a (.cells 25 true [(.int .i64 0),(.bool false),(.int .i64 0),(.str []),AV.aF,AV.aF]))) 1)).bind fun b3=>
       (eY b3).bind fun b4=>
       (shift c 1).bind fun b5=>
       (loadAt C0.P b 9 b5).bind fun b6=>
       (eY b6).bind fun b7=>
       (loadAt C0.P b 25 (.ref (St.next (St.push (St.push a (.cells 25 true [(.int .i64 0),(.bool false),(.int .i64 0),(.str []),AV.aF,AV.aF])) (.cells 28 true [(.int .i64 0),(.str []),(.int .i64 0),(.bool false),(.int .i64 0),(.str []),AV.aF,AV.aF,AV.aF,AV.aF]))) 2)).bind fun b8=>
       (aQ b8).bind fun(b9,c0,c1,c2,c3,c4)=>
       (storeAt C0.P b 25 (.ref (St.next a) 0) (.agg [(.int .i64 b9),(.bool c0),(.int .i64 c1),(.str c2),c3,c4])).bind fun y=>
       (loadAt C0.P y 25 (.ref (St.next a) 0)).bind fun c5=>
       (aQ c5).bind fun(c6,c7,c8,c9,d0,d1)=>
       some (b4,b7,c6,c7,c8,c9,d0,d1,true,y)
      else
       (storeAt C0.P b 25 (.ref (St.next a) 0) (.agg [(.int .i64 0),(.bool false),(.int .i64 0),(.str []),AV.aF,AV.aF])).bind fun z=>
       (loadAt C0.P z 25 (.ref (St.next a) 0)).bind fun d2=>
       (aQ d2).bind fun(d3,d4,d5,d6,d7,d8)=>
       some ([],[],d3,d4,d5,d6,d7,d8,false,z)
     else
      if (x = 1) then
       (loadAt C0.P b 3 (.ref (St.next (St.push (St.push a (.cells 25 true [(.int .i64 0),(.bool false),(.int .i64 0),(.str []),AV.aF,AV.aF])) (.cells 28 true [(.int .i64 0),(.str []),(.int .i64 0),(.bool false),(.int .i64 0),(.str []),AV.aF,AV.aF,AV.aF,AV.aF]))) 0)).bind fun d9=>
       (dN .i64 d9).bind fun e0=>
       if(e0=2) then
        (loadAt C0.P b 9 (.ref (St.next (St.push (St.push a (.cells 25 true [(.int .i64 0),(.bool false),(.int .i64 0),(.str []),AV.aF,AV.aF])) (.cells 28 true [(.int .i64 0),(.str []),(.int .i64 0),(.bool false),(.int .i64 0),(.str []),AV.aF,AV.aF,AV.aF,AV.aF]))) 1)).bind fun e1=>
        (eY e1).bind fun e2=>
        (shift c 1).bind fun e3=>
        (loadAt C0.P b 9 e3).bind fun e4=>
        (eY e4).bind fun e5=>
        (loadAt C0.P b 25 (.ref (St.next (St.push a (.cells 25 true [(.int .i64 0),(.bool false),(.int .i64 0),(.str []),AV.aF,AV.aF]))) 2)).bind fun e6=>
        (aQ e6).bind fun(f,g,h,i,j,k)=>
        (uI R e5).bind fun e7=>
        if AV.beq (.agg [(.int .i64 f),(.bool g),(.int .i64 h),(.str i),j,k]) (.agg [(.int .i64 f),(.bool g),(.int .i64 h),(.str i),j,k])=true then
         (storeAt C0.P b 25 (.ref (St.next a) 0) (.agg [(.int .i64 f),(.bool g),(.int .i64 h),(.str i),j,k])).bind fun A=>
         (loadAt C0.P A 25 (.ref (St.next a) 0)).bind fun e8=>
         (aQ e8).bind fun(e9,f0,f1,f2,f3,f4)=>
         some (e2,e7,e9,f0,f1,f2,f3,f4,true,A)
        else
         none
       else
        (storeAt C0.P b 25 (.ref (St.next a) 0) (.agg [(.int .i64 0),(.bool false),(.int .i64 0),(.str []),AV.aF,AV.aF])).bind fun B=>
        (loadAt C0.P B 25 (.ref (St.next a) 0)).bind fun f5=>
        (aQ f5).bind fun(f6,f7,f8,f9,g0,g1)=>
        some ([],[],f6,f7,f8,f9,g0,g1,false,B)
      else
       (storeAt C0.P b 25 (.ref (St.next a) 0) (.agg [(.int .i64 0),(.bool false),(.int .i64 0),(.str []),AV.aF,AV.aF])).bind fun C=>
       (loadAt C0.P C 25 (.ref (St.next a) 0)).bind fun g2=>
       (aQ g2).bind fun(g3,g4,g5,g6,g7,g8)=>
       some ([],[],g3,g4,g5,g6,g7,g8,false,C)
    else
     none
   else
    none
  else
   (storeAt C0.P (St.push a (.cells 25 true [(.int .i64 0),(.bool false),(.int .i64 0),(.str []),AV.aF,AV.aF])) 25 (.ref (St.next a) 0) (.agg [(.int .i64 0),(.bool false),(.int .i64 0),(.str []),AV.aF,AV.aF])).bind fun D=>
   (loadAt C0.P D 25 (.ref (St.next a) 0)).bind fun g9=>
   (aQ g9).bind fun(h0,h1,h2,h3,h4,h5)=>
   some ([],[],h0,h1,h2,h3,h4,h5,false,D)
 else
  (storeAt C0.P (St.push a (.cells 25 true [(.int .i64 0),(.bool false),(.int .i64 0),(.str []),AV.aF,AV.aF])) 25 (.ref (St.next a) 0) (.agg [(.int .i64 0),(.bool false),(.int .i64 0),(.str []),AV.aF,AV.aF])).bind fun E=>
  (loadAt C0.P E 25 (.ref (St.next a) 0)).bind fun h6=>
  (aQ h6).bind fun(h7,h8,h9,i0,i1,i2)=>
  some ([],[],h7,h8,h9,i0,i1,i2,false,E)
theorem Fc {R : Nat} (n : Nat) {s : Int} {u : List UInt8} {v : Int} {w : Bool} {x : Int} {y : List UInt8} {z : AV} {A : AV} {B : AV} {C : AV} {D : St} {r : List UInt8 × List UInt8 × Int × Bool × Int × List UInt8 × AV × AV × Bool × St} (h : wV R s u v w x y z A B C D = some r):
 aR (aW C0 bK R (n+2)) false 36 [(.agg [(.int .i64 s),(.str u),(.int .i64 v),(.bool w),(.int .i64 x),(.str y),z,A,B,C])] D (.tuple [(.str r.1),(.str r.2.1),(.agg [.int .i64 r.2.2.1,.bool r.2.2.2.1,.int .i64 r.2.2.2.2.1,.str r.2.2.2.2.2.1,r.2.2.2.2.2.2.1,r.2.2.2.2.2.2.2.1]),(.bool r.2.2.2.2.2.2.2.2.1)]) r.2.2.2.2.2.2.2.2.2:=by
 revert h;unfold wV;refine aA fun o O=>?_;obtain⟨Q,S⟩:=o;refine aA fun T U=>aA fun n8 V=>aA fun W X=>?_
 obtain rfl:=bE X;have q9016:=aG V<|aG U<|aG (pE O) eE
 let q8014:List Hint:=[.cA Q S,.run 4,.val T,.val (.int .i64 W)]
 refine aU (fun f=>?_) (fun f=>?_)
 ·refine aA fun g i => aA fun j k => aA fun n4393 Y => ?_
  have q9017:=aG (cV (P:=C0.P) (t:=26) (e:=28) (by kernel_rfl) Y)<|aG k<|aG i<|aG (Ax f) q9016
  let q8015:List Hint:=q8014 ++ [.dec false,.run 1,.val g,.val j,.val (.int .i64 (n4393:Int))]
  refine aU (fun l=>?_) (fun l=>?_)
  ·refine aA fun Z a0 => aA fun n9 a1 => aA fun o a2 => ?_
   obtain⟨a3,a4,a5,a6,a7,a8,a9,b0,b1,b2⟩:=o;obtain rfl:=aC a2;refine aA fun b3 b4=>aA fun o0 b5=>aA fun o b6=>?_
   obtain⟨b7,b8,c0,c1,c2,c3,c4,c5,c6,c7⟩:=o;obtain rfl:=aC b6;refine aA fun c8 c9=>aA fun o1 d0=>?_
   have q9018:=aG (aN c9)<|aG b5<|aG b4<|aG k<|aG i<|aG a1<|aG a0<|aG k<|aG i<|aG (Ax l) q9017
   let q8016:List Hint:=q8015 ++ [.dec false,.run 1,.aM,.val g,.val j,.val Z,.val (aJ a3 a4 a5 a6 a7 a8 a9 b0 b1 b2),.val g,.val j,.val b3,.val (aJ b7 b8 c0 c1 c2 c3 c4 c5 c6 c7),.run 2,.cA AV.undef c8]
   refine aU (fun E=>?_) (fun E=>?_)
   ·refine aA fun o2 d1 => ?_
    refine aU (fun F=>?_) (fun F=>?_)
    ·refine aA fun m d2=>aA fun o3 b=>aA fun c d3=>?_
     obtain rfl:=bE d3;have q9019:=aG b<|aG (aN d2)<|aG (jQ d0 E)<|aG (jQ d1 F) q9018
     let q8017:List Hint:=q8016 ++ [.cA AV.undef m,.aM,.run 1,.val (.int .i64 c)]
     refine aU (fun a=>?_) (fun a=>?_)
     ·refine aA fun o4 G=>aA fun H d4=>?_
      obtain rfl:=bE d4;refine aU (fun p=>?_) (fun p=>?_)
      ·refine aA fun o5 d5=>aA fun d6 d7=>?_
       obtain rfl:=cC d7;refine aA fun d8 d9=>aA fun o6 e0=>aA fun e1 e2=>?_
       obtain rfl:=cC e2;refine aA fun o7 e3=>aA fun o e4=>?_
       obtain⟨e5,e6,e7,e8,e9,f0⟩:=o;obtain rfl:=aO e4;refine aA fun f1 f2=>aA fun o8 f3=>aA fun o f4=>?_
       obtain⟨f5,f6,f7,f8,f9,g0⟩:=o;obtain rfl:=aO f4;intro h;obtain rfl:=b9 h;exact dE (hs:=q8017 ++ [.dec true,.run 2,.val (.int .i64 H),.dec true,.run 2,.aM,.run 1,.val (.str d6),.val d8,.val (.str e1),.run 1,.val (bD e5 e6 e7 e8 e9 f0),.run 2,.cA AV.undef f1,.run 1,.val (bD f5 f6 f7 f8 f9 g0)]) (by kernel_rfl) (aG f3<|aG (aN f2)<|aG e3<|aG e0<|aG d9<|aG d5<|aG (eG p)<|aG G<|aG (eG a) q9019)
      ·refine aA fun g1 g2=>aA fun o9 g3=>aA fun o g4=>?_
       obtain⟨g5,g6,g7,g8,g9,h0⟩:=o;obtain rfl:=aO g4;intro h;obtain rfl:=b9 h;exact dE (hs:=q8017 ++ [.dec true,.run 2,.val (.int .i64 H),.dec false,.run 2,.aM,.run 1,.val (.int .i64 c),.dec false,.run 3,.aM,.run 3,.cA AV.undef g1,.run 1,.val (bD g5 g6 g7 g8 g9 h0)]) (by kernel_rfl) (aG g3<|aG (aN g2)<|aG (dP (show ¬ (c=1) by omega))<|aG b<|aG (dP p)<|aG G<|aG (eG a) q9019)
     ·let q8018 : List Hint := q8017 ++ [.dec false, .run 3, .aM, .run 1, .val (.int .i64 c)]
      refine aU (fun d=>?_) (fun d=>?_)
      ·refine aA fun p0 I=>aA fun J h1=>?_
       obtain rfl:=bE h1;refine aU (fun q=>?_) (fun q=>?_)
       ·refine aA fun p1 K=>aA fun L h2=>?_
        obtain rfl:=cC h2;refine aA fun h3 h4=>aA fun p2 h5=>aA fun h6 h7=>?_
        obtain rfl:=cC h7;refine aA fun p3 M=>aA fun o h8=>?_
        obtain⟨h9,i0,i1,i2,i3,i4⟩:=o;obtain rfl:=aO h8;refine aA fun i5 i6=>?_;refine aU (fun N=>?_) (fun N=>?_)
        ·refine aA fun i7 i9=>aA fun p4 j0=>aA fun o j1=>?_
         obtain⟨j2,j3,j4,j5,j6,j7⟩:=o;obtain rfl:=aO j1;intro h;obtain rfl:=b9 h;exact dE (hs:=q8018 ++ [.dec true,.run 2,.val (.int .i64 J),.dec true,.run 2,.aM,.run 1,.val (.str L),.val h3,.val (.str h6),.run 1,.val (bD h9 i0 i1 i2 i3 i4),.call (.str i5) m,.run 2,.cA AV.undef i7,.run 1,.val (bD j2 j3 j4 j5 j6 j7)]) (by kernel_rfl) (aG j0<|aG (aN i9)<|aG (And.intro M N)<|aG (And.intro K (tL L))<|aG (F3 n m i6)<|aG M<|aG h5<|aG h4<|aG K<|aG (eG q)<|aG I<|aG (eG d)<|aG b<|aG (dP a) q9019)
        ·exact fun h=>nomatch h
       ·refine aA fun j8 j9=>aA fun p5 k0=>aA fun o k1=>?_
        obtain⟨k2,k3,k4,k5,k6,k7⟩:=o;obtain rfl:=aO k1;intro h;obtain rfl:=b9 h;exact dE (hs:=q8018 ++ [.dec true,.run 2,.val (.int .i64 J),.dec false,.run 2,.aM,.run 3,.cA AV.undef j8,.run 1,.val (bD k2 k3 k4 k5 k6 k7)]) (by kernel_rfl) (aG k0<|aG (aN j9)<|aG (dP q)<|aG I<|aG (eG d)<|aG b<|aG (dP a) q9019)
      ·refine aA fun k8 k9=>aA fun p6 l0=>aA fun o l1=>?_
       obtain⟨l2,l3,l4,l5,l6,l7⟩:=o;obtain rfl:=aO l1;intro h;obtain rfl:=b9 h;exact dE (hs:=q8018 ++ [.dec false,.run 3,.aM,.run 3,.cA AV.undef k8,.run 1,.val (bD l2 l3 l4 l5 l6 l7)]) (by kernel_rfl) (aG l0<|aG (aN k9)<|aG (dP d)<|aG b<|aG (dP a) q9019)
    ·exact fun h=>nomatch h
   ·exact fun h=>nomatch h
  ·refine aA fun l8 l9=>aA fun p7 m0=>aA fun o m1=>?_
   obtain⟨m2,m3,m4,m5,m6,m7⟩:=o;obtain rfl:=aO m1;intro h;obtain rfl:=b9 h;exact dE (hs:=q8015 ++ [.dec true,.run 1,.aM,.run 3,.cA AV.undef l8,.run 1,.val (bD m2 m3 m4 m5 m6 m7)]) (by kernel_rfl) (aG m0<|aG (aN l9)<|aG (D5 l) q9017)
 ·refine aA fun m8 m9=>aA fun p8 n0=>aA fun o n1=>?_
  obtain⟨n2,n3,n4,n5,n6,n7⟩:=o;obtain rfl:=aO n1;intro h;obtain rfl:=b9 h;exact dE (hs:=q8014 ++ [.dec true,.run 2,.aM,.run 3,.cA AV.undef m8,.run 1,.val (bD n2 n3 n4 n5 n6 n7)]) (by kernel_rfl) (aG n0<|aG (aN m9)<|aG (D5 f) q9016)
structure JK where
 n:Nat
 f13:Int→List UInt8→Int→Bool→Int→List UInt8→AV→AV→AV→AV→St→Option (AV×St)
def JK.ok (R:JK)(n:Nat):Prop:=(∀ m,n≤m→ ∀(a0:Int) (a1:List UInt8) (a2:Int) (a3:Bool) (a4:Int) (a5:List UInt8) (a6:AV) (a7:AV) (a8:AV) (a9:AV) (st:St) (r:AV×St),R.f13 a0 a1 a2 a3 a4 a5 a6 a7 a8 a9 st=some r→aR (aW C0 bK R.n m) false 13 [(.agg [.int .i64 a0,.str a1,.int .i64 a2,.bool a3,.int .i64 a4,.str a5,a6,a7,a8,a9])] st r.1 r.2)
theorem JK.ok.QJ {R:JK}{n:Nat}(h:R.ok n):(∀ m,n≤m→ ∀(a0:Int) (a1:List UInt8) (a2:Int) (a3:Bool) (a4:Int) (a5:List UInt8) (a6:AV) (a7:AV) (a8:AV) (a9:AV) (st:St) (r:AV×St),R.f13 a0 a1 a2 a3 a4 a5 a6 a7 a8 a9 st=some r→aR (aW C0 bK R.n m) false 13 [(.agg [.int .i64 a0,.str a1,.int .i64 a2,.bool a3,.int .i64 a4,.str a5,a6,a7,a8,a9])] st r.1 r.2):=h
def qW (R : JK) (r : Int) (s : List UInt8) (t : Int) (u : Bool) (v : Int) (w : List UInt8) (x : AV) (y : AV) (z : AV) (A : AV) (B : St) : Option (AV × St) :=
 (oQ 28 (.agg [(.int .i64 r),(.str s),(.int .i64 t),(.bool u),(.int .i64 v),(.str w),x,y,z,A]) B).bind fun(b,a)=>
 (shift b 0).bind fun C=>
 (loadAt C0.P a 3 C).bind fun D=>
 (dN .i64 D).bind fun e=>
 if(e=0) then
  some (AV.aF,a)
 else
  if (e = 6) then
   (shift b 1).bind fun E=>
   (loadAt C0.P a 9 E).bind fun F=>
   (eY F).bind fun G=>
   if (G = [65, 78, 68]) then
    (shift b 8).bind fun f=>
    (loadAt C0.P a 26 f).bind fun c=>
    (lenOf c).bind fun n4613=>
    if ((n4613 : Int) = 2) then
     (bA C0.P 26 c (.int .i64 0)).bind fun H=>
     (loadAt C0.P a 28 H).bind fun I=>
     (aD I).bind fun(J,K,L,M,N,O,Q,S,T,U)=>
     (bA C0.P 26 c (.int .i64 1)).bind fun g=>
     (loadAt C0.P a 28 g).bind fun V=>
     (aD V).bind fun(h,i,j,k,l,m,n,o,p,q)=>
     (R.f13 J K L M N O Q S T U a).bind fun(W,d)=>
     (loadAt C0.P d 28 g).bind fun X=>
     if AV.beq X (.agg [(.int .i64 h),(.str i),(.int .i64 j),(.bool k),(.int .i64 l),(.str m),n,o,p,q])=true then
      (loadAt C0.P d 26 f).bind fun Y=>
      if AV.beq Y c=true then
       (R.f13 h i j k l m n o p q d).bind fun(Z,a0)=>
       (cX C0.P (C0.cQ 13) a0 #[26,26] W Z).bind fun(a1,a2)=>
       some (a1,a2)
      else
       none
     else
      none
    else
     (loadAt C0.P a 28 b).bind fun a3=>
     (aD a3).bind fun(a4,a5,a6,a7,a8,a9,b0,b1,b2,b3)=>
     (eV (aY C0.P (C0.cQ 13) 26 1 [(0,(.agg [(.int .i64 a4),(.str a5),(.int .i64 a6),(.bool a7),(.int .i64 a8),(.str a9),b0,b1,b2,b3]))]) a).bind fun(b4,b5)=>
     some (b4,b5)
   else
    (loadAt C0.P a 28 b).bind fun b6=>
    (aD b6).bind fun(b7,b8,b9,c0,c1,c2,c3,c4,c5,c6)=>
    (eV (aY C0.P (C0.cQ 13) 26 1 [(0,(.agg [(.int .i64 b7),(.str b8),(.int .i64 b9),(.bool c0),(.int .i64 c1),(.str c2),c3,c4,c5,c6]))]) a).bind fun(c7,c8)=>
    some (c7,c8)
  else
   (loadAt C0.P a 28 b).bind fun c9=>
   (aD c9).bind fun(d0,d1,d2,d3,d4,d5,d6,d7,d8,d9)=>
   (eV (aY C0.P (C0.cQ 13) 26 1 [(0,(.agg [(.int .i64 d0),(.str d1),(.int .i64 d2),(.bool d3),(.int .i64 d4),(.str d5),d6,d7,d8,d9]))]) a).bind fun(e0,e1)=>
   some (e0,e1)
theorem BZ {R : JK} (n : Nat) (hR : R.ok n) {k : Int} {l : List UInt8} {m : Int} {p : Bool} {q : Int} {s : List UInt8} {u : AV} {v : AV} {w : AV} {x : AV} {y : St} {r : AV × St} (h : qW R k l m p q s u v w x y = some r):
 aR (aW C0 bK R.n (n+1)) false 13 [(.agg [(.int .i64 k),(.str l),(.int .i64 m),(.bool p),(.int .i64 q),(.str s),u,v,w,x])] y r.1 r.2:=by
 revert h;unfold qW;refine aA fun o a3=>?_;obtain⟨a4,z⟩:=o;refine aA fun A B=>aA fun h6 C=>aA fun D a5=>?_
 obtain rfl:=bE a5;have q9020:=aG C<|aG B<|aG (pE a3) eE
 let q8019:List Hint:=[.cA a4 z,.run 1,.val A,.val (.int .i64 D)]
 refine aU (fun a=>?_) (fun a=>?_)
 ·intro h;obtain rfl:=b9 h;exact dE (hs:=q8019 ++ [.dec true,.aM,.run 1]) (by kernel_rfl) (aG (eG a) q9020)
 ·have q9021:=aG C<|aG B<|aG (dP a) q9020
  let q8020:List Hint:=q8019 ++ [.dec false,.aM,.val A,.val (.int .i64 D)]
  refine aU (fun b=>?_) (fun b=>?_)
  ·refine aA fun a6 a7=>aA fun h7 a8=>aA fun a9 b0=>?_
   obtain rfl:=cC b0;have q9022:=aG a8<|aG a7<|aG (eG b) q9021
   let q8021:List Hint:=q8020 ++ [.dec true,.run 1,.val a6,.val (.str a9)]
   refine aU (fun c=>?_) (fun c=>?_)
   ·refine aA fun d f=>aA fun g i=>aA fun n4613 b1=>?_
    have q9023:=aG (cV (P:=C0.P) (t:=26) (e:=28) (by kernel_rfl) b1)<|aG i<|aG f<|aG (dM c) q9022
    let q8022:List Hint:=q8021 ++ [.dec true,.run 2,.val d,.val g,.val (.int .i64 (n4613:Int))]
    refine aU (fun j=>?_) (fun j=>?_)
    ·refine aA fun b2 b3=>aA fun h8 b4=>aA fun o b5=>?_
     obtain⟨E,F,G,H,I,J,K,L,M,N⟩:=o;obtain rfl:=aC b5;refine aA fun b6 b7=>aA fun h9 b8=>aA fun o c0=>?_
     obtain⟨O,Q,S,T,U,V,W,X,Y,Z⟩:=o;obtain rfl:=aC c0;refine aA fun o c1=>?_;obtain⟨c2,a0⟩:=o;refine aA fun i0 c3=>?_;refine aU (fun a1=>?_) (fun a1=>?_)
     ·refine aA fun i1 c4=>?_;refine aU (fun a2=>?_) (fun a2=>?_)
      ·refine aA fun o c5=>?_;obtain⟨c6,c7⟩:=o;refine aA fun o c8=>?_;obtain⟨c9,d0⟩:=o;intro h;obtain rfl:=b9 h;exact dE (hs:=q8022 ++ [.dec true,.run 1,.aM,.val d,.val g,.val b2,.val (aJ E F G H I J K L M N),.val d,.val g,.val b6,.val (aJ O Q S T U V W X Y Z),.call c2 a0,.call c6 c7,.cA c9 d0,.run 1]) (by kernel_rfl) (aG c8<|aG (hR.QJ n (by omega) O Q S T U V W X Y Z a0 _ c5)<|aG (jQ c3 a1)<|aG (jQ c4 a2)<|aG (hR.QJ n (by omega) E F G H I J K L M N z _ c1)<|aG b8<|aG b7<|aG i<|aG f<|aG b4<|aG b3<|aG i<|aG f<|aG (eG j) q9023)
      ·exact fun h=>nomatch h
     ·exact fun h=>nomatch h
    ·refine aA fun i2 d1=>aA fun o d2=>?_
     obtain⟨d3,d4,d5,d6,d7,d8,d9,e0,e1,e2⟩:=o;obtain rfl:=aC d2;refine aA fun o e3=>?_;obtain⟨e4,e5⟩:=o;intro h;obtain rfl:=b9 h;exact dE (hs:=q8022 ++ [.dec false,.run 1,.aM,.val (aJ d3 d4 d5 d6 d7 d8 d9 e0 e1 e2),.cA e4 e5,.run 1]) (by kernel_rfl) (aG e3<|aG d1<|aG (dP j) q9023)
   ·refine aA fun i3 e6=>aA fun o e7=>?_
    obtain⟨e8,e9,f0,f1,f2,f3,f4,f5,f6,f7⟩:=o;obtain rfl:=aC e7;refine aA fun o f8=>?_;obtain⟨f9,g0⟩:=o;intro h;obtain rfl:=b9 h;exact dE (hs:=q8021 ++ [.dec false,.run 3,.aM,.val (aJ e8 e9 f0 f1 f2 f3 f4 f5 f6 f7),.cA f9 g0,.run 1]) (by kernel_rfl) (aG f8<|aG e6<|aG (cL c) q9022)
  ·refine aA fun i4 g1=>aA fun o g2=>?_
   obtain⟨g3,g4,g5,g6,g7,g8,g9,h0,h1,h2⟩:=o;obtain rfl:=aC g2;refine aA fun o h3=>?_;obtain⟨h4,h5⟩:=o;intro h;obtain rfl:=b9 h;exact dE (hs:=q8020 ++ [.dec false,.run 4,.aM,.val (aJ g3 g4 g5 g6 g7 g8 g9 h0 h1 h2),.cA h4 h5,.run 1]) (by kernel_rfl) (aG h3<|aG g1<|aG (dP b) q9021)
def HU (R:Nat):Nat→JK
 | 0=>⟨R,(fun _ _ _ _ _ _ _ _ _ _ _=>none)⟩
 | k+1=>⟨R,(fun a0 a1 a2 a3 a4 a5 a6 a7 a8 a9 st=>qW (HU R k) a0 a1 a2 a3 a4 a5 a6 a7 a8 a9 st)⟩
theorem ML (R:Nat):∀ k,(HU R k).n=R
 | 0=>rfl
 | _+1=>rfl
theorem KB (R:Nat):∀ k n,1 * k≤n→(HU R k).ok n
 | 0,n,_=>(fun _ _ _ _ _ _ _ _ _ _ _ _ _ _ h=>nomatch h)
 | k + 1, n, hn =>
   fun m hm a0 a1 a2 a3 a4 a5 a6 a7 a8 a9 st r h=>by
    obtain⟨j,rfl⟩:∃ j,m=j+1:=⟨m - 1,by omega⟩
    have:=BZ j (KB R k j (by omega)) h
    rw[ML] at this
    exact this
def pD (R:Nat)(a0:Int)(a1:List UInt8)(a2:Int)(a3:Bool)(a4:Int)(a5:List UInt8)(a6:AV)(a7:AV)(a8:AV)(a9:AV)(st:St):Option (AV×St):=qW (HU R 4000) a0 a1 a2 a3 a4 a5 a6 a7 a8 a9 st
theorem rZ {R:Nat}(n:Nat){a0:Int}{a1:List UInt8}{a2:Int}{a3:Bool}{a4:Int}{a5:List UInt8}{a6:AV}{a7:AV}{a8:AV}{a9:AV}{st:St}{r:AV×St}(h:pD R a0 a1 a2 a3 a4 a5 a6 a7 a8 a9 st=some r):aR (aW C0 bK R (n+4001)) false 13 [(.agg [.int .i64 a0,.str a1,.int .i64 a2,.bool a3,.int .i64 a4,.str a5,a6,a7,a8,a9])] st r.1 r.2:=by
 have:=BZ (n+4000) (KB R 4000 _ (by omega)) h
 rw[ML] at this
 exact this
def iP (R : Nat) (c : AV) (d : List UInt8) (e : Int) : Nat → Int → St → Option ((Int × St) ⊕ (St))
 | 0,_,_=>none
 | r + 1, a, b =>
   if(a<e) then
    (bA C0.P 22 c (.int .i64 a)).bind fun f=>
    (loadAt C0.P b 9 f).bind fun g=>
    (eY g).bind fun h=>
    if(d=h) then
     some (.inl (a,b))
    else
     iP R c d e r (IntKind.wrap .i64 (a+1)) b
   else
    some (.inr b)
def nQ (o:(Int×St) ⊕ (St)):cE×List (Nat×AV)×St:=match o with
 | .inl (a0,a1)=>(.ret,[(4,.int .i64 a0)],a1)
 | .inr a0=>((.exit 0),[],a0)
theorem rH (R n : Nat) (e : AV) (f : List UInt8) (g : Int) : ∀ (r : Nat) (a : Int) (b : St) (o : (Int × St) ⊕ (St)), iP R e f g r a b = some o →
 jL 19 (jA (fun fr k=>cZ C0 (aW C0 bK R n) 81 R none (dA C0.P 81 [1,0,1,0,0]) fr k) r) (dI (dA C0.P 81 [1,0,1,0,0])) [(0,e),(1,(.str f)),(7,(.int .i64 g)),(8,(.int .i64 a))] b (nQ o).1 (nQ o).2.1 (nQ o).2.2:=by
 intro r
 induction r with
 | zero=>intro a b o h; exact nomatch h
 | succ r ih =>
   intro a b o
   unfold iP;refine aU (fun c=>?_) (fun c=>?_)
   ·refine aA fun i j=>aA fun q l=>aA fun m p=>?_
    obtain rfl:=cC p;refine aU (fun d=>?_) (fun d=>?_)
    ·intro h;obtain rfl:=b9 h;exact bI (aK (hs:=[.dec true,.aM,.aM,.run 5,.val i,.val (.str m),.dec true,.aM,.run 2]) (want:=[4]) (by kernel_rfl) (.cons (dM d)<|.cons l<|.cons j<|.cons (decide_eq_true c) .nil)) (by kernel_rfl)
    ·intro h;exact cS (aK (hs:=[.dec true,.aM,.aM,.run 5,.val i,.val (.str m),.dec false,.aM,.run 2]) (want:=[0,1,7,8]) (by kernel_rfl) (.cons (cL d)<|.cons l<|.cons j<|.cons (decide_eq_true c) .nil)) (ih (IntKind.wrap .i64 (a+1)) b _ h)
   ·intro h;obtain rfl:=b9 h;exact bI (aK (hs:=[.dec false,.aM]) (want:=[]) (by kernel_rfl) (.cons (decide_eq_false c) .nil)) (by kernel_rfl)
def rP (R:Nat)(a:AV)(b:List UInt8)(c:St):Option (Int×St):=
 (lenOf a).bind fun n4714=>
 (iP R a b (n4714:Int) R 0 c).bind fun o=>match o with
 | .inl (d,e)=>
  some (d,e)
 | .inr f=>
  some ((-1),f)
theorem xU {R:Nat}(n:Nat){a:AV}{b:List UInt8}{c:St}{r:Int×St}(h:rP R a b c=some r):
 aR (aW C0 bK R (n+1)) false 81 [a,(.str b)] c (.int .i64 r.1) r.2:=by
 revert h;unfold rP;refine aA fun n4714 d=>aA fun o f=>?_
 rcases o with⟨g,i⟩ | j
 ·intro h;obtain rfl:=b9 h;exact dE (hs:=[.run 2,.val (.int .i64 (n4714:Int)),.run 1,.aM,.abs [0,1,7,8] .ret [(4,(.int .i64 g))] i]) (by kernel_rfl) (aG (bY (rH R n a b (n4714:Int) R 0 c _ f))<|aG (cV (P:=C0.P) (t:=22) (e:=9) (by kernel_rfl) d) eE)
 ·intro h;obtain rfl:=b9 h;exact dE (hs:=[.run 2,.val (.int .i64 (n4714:Int)),.run 1,.aM,.abs [0,1,7,8] (.exit 0) [] j,.run 1]) (by kernel_rfl) (aG (bY (rH R n a b (n4714:Int) R 0 c _ f))<|aG (cV (P:=C0.P) (t:=22) (e:=9) (by kernel_rfl) d) eE)
def mE (R:Nat)(b:AV)(c:List UInt8)(d:St):Option (Bool×St):=
 (rP R b c d).bind fun(e,a)=>
 if(e≥0) then
  some (true,a)
 else
  some (false,a)
theorem Ao {R:Nat}(n:Nat){b:AV}{c:List UInt8}{d:St}{r:Bool×St}(h:mE R b c d=some r):
 aR (aW C0 bK R (n+2)) false 38 [b,(.str c)] d (.bool r.1) r.2:=by
 revert h;unfold mE;refine aA fun o e=>?_;obtain⟨f,g⟩:=o;refine aU (fun a=>?_) (fun a=>?_)
 ·intro h;obtain rfl:=b9 h;exact dE (hs:=[.run 3,.call (.int .i64 f) g,.dec true,.run 1]) (by kernel_rfl) (aG (decide_eq_true a)<|aG (xU n e) eE)
 ·intro h;obtain rfl:=b9 h;exact dE (hs:=[.run 3,.call (.int .i64 f) g,.dec false,.run 1]) (by kernel_rfl) (aG (decide_eq_false a)<|aG (xU n e) eE)
def oB (R:Nat)(b:Nat)(g:Nat)(c:Nat)(a:St):Option (St):=
 (loadAt C0.P a 9 (.ref b 1)).bind fun d=>
 (eY d).bind fun e=>
 (storeAt C0.P a 9 (.ref c 1) (.str e)).bind fun f=>
 some f
theorem wD {R:Nat}(n:Nat){a:Nat}{b:Nat}{c:Nat}{d:St}{r:St}(h:oB R a b c d=some r):
 oE 33 bK R n 39 [1,1,0,1] [(3,(.ref a 0)),(4,(.ref b 0)),(5,(.ref c 0)),(28,(.bool true))] d .normal [] r:=by
 revert h;unfold oB;refine aA fun k e=>aA fun f g=>?_
 obtain rfl:=cC g;refine aA fun i j=>?_;intro h;obtain rfl:=b9 h;exact aK (hs:=[.aM,.run 1,.val (.str f),.run 1,.cA AV.undef i]) (want:=[]) (by kernel_rfl) (aG (aN j)<|aG e eE)
def mQ (R:Nat)(a:Nat)(b:Nat)(c:Nat):Option (Unit):=
 some ()
theorem tV {R:Nat}(n:Nat){a:Nat}{b:Nat}{c:Nat}(d:St){r:Unit}(h:mQ R a b c=some r):
 oE 33 bK R n 39 [1,1,0,1] [(3,(.ref a 0)),(4,(.ref b 0)),(5,(.ref c 0)),(28,(.bool false))] d .normal [] d:=by
 revert h;unfold mQ;intro h;obtain rfl:=b9 h;exact aK (hs:=[.aM]) (want:=[]) (by kernel_rfl) .nil
def vX (R : Nat) (b : List UInt8) (c : List UInt8) (d : List UInt8) (e : List UInt8) (a : St) : Option (List UInt8 × List UInt8 × St) :=
 (loadAt C0.P (St.push (St.push (St.push a (.cells 33 true [(.str b),(.str c)])) (.cells 33 true [(.str d),(.str e)])) (.cells 33 true [(.str []),(.str [])])) 9 (.ref (St.next a) 0)).bind fun q=>
 (eY q).bind fun g=>
 (loadAt C0.P (St.push (St.push (St.push a (.cells 33 true [(.str b),(.str c)])) (.cells 33 true [(.str d),(.str e)])) (.cells 33 true [(.str []),(.str [])])) 9 (.ref (St.next (St.push a (.cells 33 true [(.str b),(.str c)]))) 0)).bind fun r=>
 (eY r).bind fun h=>
 (loadAt C0.P (St.push (St.push (St.push a (.cells 33 true [(.str b),(.str c)])) (.cells 33 true [(.str d),(.str e)])) (.cells 33 true [(.str []),(.str [])])) 9 (.ref (St.next a) 1)).bind fun s=>
 (eY s).bind fun t=>
 (storeAt C0.P (St.push (St.push (St.push (St.push a (.cells 33 true [(.str b),(.str c)])) (.cells 33 true [(.str d),(.str e)])) (.cells 33 true [(.str []),(.str [])])) (.cells 33 true [(.str []),(.str [])])) 33 (.ref (St.next (St.push (St.push (St.push a (.cells 33 true [(.str b),(.str c)])) (.cells 33 true [(.str d),(.str e)])) (.cells 33 true [(.str []),(.str [])]))) 0) (.agg [(.str (cond (!strLt g h) g h)),(.str t)])).bind fun f=>
 (loadAt C0.P f 9 (.ref (St.next a) 1)).bind fun u=>
 (eY u).bind fun i=>
 if(i=[]) then
  (oB R (St.next (St.push a (.cells 33 true [(.str b),(.str c)]))) (St.next (St.push (St.push a (.cells 33 true [(.str b),(.str c)])) (.cells 33 true [(.str d),(.str e)]))) (St.next (St.push (St.push (St.push a (.cells 33 true [(.str b),(.str c)])) (.cells 33 true [(.str d),(.str e)])) (.cells 33 true [(.str []),(.str [])]))) f).bind fun j=>
  (loadAt C0.P j 33 (.ref (St.next (St.push (St.push (St.push a (.cells 33 true [(.str b),(.str c)])) (.cells 33 true [(.str d),(.str e)])) (.cells 33 true [(.str []),(.str [])]))) 0)).bind fun v=>
  (gU v).bind fun(w,x)=>
  (storeAt C0.P j 33 (.ref (St.next (St.push (St.push a (.cells 33 true [(.str b),(.str c)])) (.cells 33 true [(.str d),(.str e)]))) 0) (.agg [(.str w),(.str x)])).bind fun k=>
  (loadAt C0.P k 33 (.ref (St.next (St.push (St.push a (.cells 33 true [(.str b),(.str c)])) (.cells 33 true [(.str d),(.str e)]))) 0)).bind fun y=>
  (gU y).bind fun(z,A)=>
  some (z,A,k)
 else
  (loadAt C0.P f 9 (.ref (St.next (St.push a (.cells 33 true [(.str b),(.str c)]))) 1)).bind fun B=>
  (eY B).bind fun l=>
  if(l=[]) then
   (mQ R (St.next (St.push a (.cells 33 true [(.str b),(.str c)]))) (St.next (St.push (St.push a (.cells 33 true [(.str b),(.str c)])) (.cells 33 true [(.str d),(.str e)]))) (St.next (St.push (St.push (St.push a (.cells 33 true [(.str b),(.str c)])) (.cells 33 true [(.str d),(.str e)])) (.cells 33 true [(.str []),(.str [])])))).bind fun _=>
   (loadAt C0.P f 33 (.ref (St.next (St.push (St.push (St.push a (.cells 33 true [(.str b),(.str c)])) (.cells 33 true [(.str d),(.str e)])) (.cells 33 true [(.str []),(.str [])]))) 0)).bind fun C=>
   (gU C).bind fun(D,E)=>
   (storeAt C0.P f 33 (.ref (St.next (St.push (St.push a (.cells 33 true [(.str b),(.str c)])) (.cells 33 true [(.str d),(.str e)]))) 0) (.agg [(.str D),(.str E)])).bind fun m=>
   (loadAt C0.P m 33 (.ref (St.next (St.push (St.push a (.cells 33 true [(.str b),(.str c)])) (.cells 33 true [(.str d),(.str e)]))) 0)).bind fun F=>
   (gU F).bind fun(G,H)=>
   some (G,H,m)
  else
   if(strLt l i)=true then
    (oB R (St.next (St.push a (.cells 33 true [(.str b),(.str c)]))) (St.next (St.push (St.push a (.cells 33 true [(.str b),(.str c)])) (.cells 33 true [(.str d),(.str e)]))) (St.next (St.push (St.push (St.push a (.cells 33 true [(.str b),(.str c)])) (.cells 33 true [(.str d),(.str e)])) (.cells 33 true [(.str []),(.str [])]))) f).bind fun n=>
    (loadAt C0.P n 33 (.ref (St.next (St.push (St.push (St.push a (.cells 33 true [(.str b),(.str c)])) (.cells 33 true [(.str d),(.str e)])) (.cells 33 true [(.str []),(.str [])]))) 0)).bind fun I=>
    (gU I).bind fun(J,K)=>
    (storeAt C0.P n 33 (.ref (St.next (St.push (St.push a (.cells 33 true [(.str b),(.str c)])) (.cells 33 true [(.str d),(.str e)]))) 0) (.agg [(.str J),(.str K)])).bind fun o=>
    (loadAt C0.P o 33 (.ref (St.next (St.push (St.push a (.cells 33 true [(.str b),(.str c)])) (.cells 33 true [(.str d),(.str e)]))) 0)).bind fun L=>
    (gU L).bind fun(M,N)=>
    some (M,N,o)
   else
    (mQ R (St.next (St.push a (.cells 33 true [(.str b),(.str c)]))) (St.next (St.push (St.push a (.cells 33 true [(.str b),(.str c)])) (.cells 33 true [(.str d),(.str e)]))) (St.next (St.push (St.push (St.push a (.cells 33 true [(.str b),(.str c)])) (.cells 33 true [(.str d),(.str e)])) (.cells 33 true [(.str []),(.str [])])))).bind fun _=>
    (loadAt C0.P f 33 (.ref (St.next (St.push (St.push (St.push a (.cells 33 true [(.str b),(.str c)])) (.cells 33 true [(.str d),(.str e)])) (.cells 33 true [(.str []),(.str [])]))) 0)).bind fun O=>
    (gU O).bind fun(Q,S)=>
    (storeAt C0.P f 33 (.ref (St.next (St.push (St.push a (.cells 33 true [(.str b),(.str c)])) (.cells 33 true [(.str d),(.str e)]))) 0) (.agg [(.str Q),(.str S)])).bind fun p=>
    (loadAt C0.P p 33 (.ref (St.next (St.push (St.push a (.cells 33 true [(.str b),(.str c)])) (.cells 33 true [(.str d),(.str e)]))) 0)).bind fun T=>
    (gU T).bind fun(U,V)=>
    some (U,V,p)
theorem CF {R : Nat} (n : Nat) {g : List UInt8} {i : List UInt8} {j : List UInt8} {k : List UInt8} {l : St} {r : List UInt8 × List UInt8 × St} (h : vX R g i j k l = some r):
 aR (aW C0 bK R (n+1)) false 39 [(.agg [(.str g),(.str i)]),(.agg [(.str j),(.str k)])] l (.agg [.str r.1,.str r.2.1]) r.2.2:=by
 revert h;unfold vX;refine aA fun c5 q=>aA fun s t=>?_
 obtain rfl:=cC t;refine aA fun c6 u=>aA fun v w=>?_
 obtain rfl:=cC w;refine aA fun c7 x=>aA fun y z=>?_
 obtain rfl:=cC z;refine aA fun a A=>aA fun c8 c=>aA fun m B=>?_
 obtain rfl:=cC B;have q9024:=aG c<|aG (aN A)<|aG x<|aG u<|aG q eE
 let q8023:List Hint:=[.run 4,.val (.str s),.run 1,.val (.str v),.run 2,.val (.str y),.run 2,.cA AV.undef a,.run 1,.val (.str m)]
 refine aU (fun d=>?_) (fun d=>?_)
 ·refine aA fun C D=>aA fun c9 E=>aA fun o F=>?_
  obtain⟨G,H⟩:=o;obtain rfl:=eJ F;refine aA fun I J=>aA fun d0 K=>aA fun o L=>?_
  obtain⟨M,N⟩:=o;obtain rfl:=eJ L;intro h;obtain rfl:=b9 h;exact dE (hs:=q8023 ++ [.dec true,.run 2,.fT [3,4,5,28] .normal [] C,.val (mK G H),.cA AV.undef I,.val (mK M N)]) (by kernel_rfl) (aG K<|aG (aN J)<|aG E<|aG (wD n D)<|aG (dM d) q9024)
 ·refine aA fun d1 e=>aA fun p O=>?_
  obtain rfl:=cC O;have q9025:=aG e<|aG (cL d) q9024
  let q8024:List Hint:=q8023 ++ [.dec false,.run 2,.val (.str p)]
  refine aU (fun b=>?_) (fun b=>?_)
  ·refine aA fun _o P=>aA fun d2 Q=>aA fun o S=>?_
   obtain⟨T,U⟩:=o;obtain rfl:=eJ S;refine aA fun V W=>aA fun d3 X=>aA fun o Y=>?_
   obtain⟨Z,a0⟩:=o;obtain rfl:=eJ Y;intro h;obtain rfl:=b9 h;exact dE (hs:=q8024 ++ [.dec false,.run 3,.fT [3,4,5,28] .normal [] a,.val (mK T U),.cA AV.undef V,.val (mK Z a0)]) (by kernel_rfl) (aG X<|aG (aN W)<|aG Q<|aG (tV n a P)<|aG (zO b) q9025)
  ·let q8025:List Hint:=q8024 ++ [.dec true,.run 2,.val (.str p),.run 1,.val (.str m)]
   refine aU (fun f=>?_) (fun f=>?_)
   ·refine aA fun a1 a2=>aA fun d4 a3=>aA fun o a4=>?_
    obtain⟨a5,a6⟩:=o;obtain rfl:=eJ a4;refine aA fun a7 a8=>aA fun d5 a9=>aA fun o b0=>?_
    obtain⟨b1,b2⟩:=o;obtain rfl:=eJ b0;intro h;obtain rfl:=b9 h;exact dE (hs:=q8025 ++ [.dec true,.run 2,.fT [3,4,5,28] .normal [] a1,.val (mK a5 a6),.cA AV.undef a7,.val (mK b1 b2)]) (by kernel_rfl) (aG a9<|aG (aN a8)<|aG a3<|aG (wD n a2)<|aG f<|aG c<|aG e<|aG (wT b) q9025)
   ·refine aA fun _o b3=>aA fun d6 b4=>aA fun o b5=>?_
    obtain⟨b6,b7⟩:=o;obtain rfl:=eJ b5;refine aA fun b8 c0=>aA fun d7 c1=>aA fun o c2=>?_
    obtain⟨c3,c4⟩:=o;obtain rfl:=eJ c2;intro h;obtain rfl:=b9 h;exact dE (hs:=q8025 ++ [.dec false,.run 2,.fT [3,4,5,28] .normal [] a,.val (mK b6 b7),.cA AV.undef b8,.val (mK c3 c4)]) (by kernel_rfl) (aG c1<|aG (aN c0)<|aG b4<|aG (tV n a b3)<|aG (bF f)<|aG c<|aG e<|aG (wT b) q9025)
end
end Go.Proofs.YthodfojhbbendaaGreatDoor
end
