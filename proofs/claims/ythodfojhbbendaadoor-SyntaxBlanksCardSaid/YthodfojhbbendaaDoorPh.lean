/- SyntaxBlanks, part 8 of 10 of its proof (what is proved: whatever the text is, the law answers true; conditions: those each theorem states). Joined and shortened by a program. In order: SynI | SynJ | SynK | SynM -/
import Derived.Test.YthodfojhbbendaaDoorPg
section
set_option linter.all false
set_option maxRecDepth 100000
set_option maxHeartbeats 4000000
namespace Go.Proofs.YthodfojhbbendaaDoor
open Go Go.Ev
noncomputable section
attribute [local congr] rL zU
theorem Jt {a b:Nat}:AV.beq (.ref a b) (.ref a b)=true:=by simp[AV.beq]
theorem JI {z:Z}:(cS z).i=z.i:=by
 unfold cS lP AJ
 split
 ·split <;> rfl
 ·rfl
def AA (ws : List W) (R : Pr) (Rn : Nat) (z : Z) : Option (Ex × Z) := match iC ws (cS z) [45] with
 | (true,z1)=>(R.u z1).bind fun q=>.some (FI 3 q.1,Dz (gJ q.2))
 | (false, z1) => match iC ws z1 [40] with
   | (true,z2)=>(nF ws R Rn 0 z2).bind fun q=>.some (q.1,Dz (dE ws q.2 6 [41]))
   | (false, z2) => match iC ws z2 [91] with
     | (true,z3)=>(yW ws R Rn [93] Rn [] z3).bind fun q=>.some (.mk 7 [] V0 q.1 [],Dz (gJ q.2))
     | (false, z3) => match iC ws z3 [123] with
       | (true,z4)=>(yY ws R Rn [125] Rn [] [] z4).bind fun q=>.some (.mk 8 [] V0 q.1 q.2.1,Dz (gJ q.2.2))
       | (false, z4) => if (wd ws (cS z).i).1 = 1 ∧ z4.e = 0 then (Bw ws Rn z4).bind fun q => .some (.mk 2 q.1 V0 [] [], Dz (gJ q.2))
         else(HF ws z4).bind fun q=>.some (q.1,Dz q.2)
theorem Nd {ws : List W} {R : gO} {Q : Pr} (W : Wf ws) (HR : Nc ws R Q) {st : St} {p : Nat} {z z' : Z} {e : Ex} {φ : Int × List UInt8 × Int × Bool × Int × List UInt8 × AV × AV × AV × AV × St → Prop}
 (hP:PS ws st p z) (hb:AA ws Q R.n z=.some (e,z')) (hφ:EP ws st p p e z' φ):T φ (kC R (.ref p 0) st):=by
 have hp:=hP.lt
 unfold kC
 unfold AA at hb
 refine T.step (PG Oc) ?_
 repeat(refine T.step (by simp(disch:=(first | ((repeat(first | rw[aC] | rw[aE] | rw[List.length_cons] | rw[List.length_nil])) <;> omega) | (refine(?_:_∧True).1; constructor; simp only[aM, *]; exact True.intro))) only[bB]; try exact rfl) ?_)
 refine T.bind (Mc (ws:=ws) (z:=z) (by repeat' (first | exact hP | refine PS.push ?_ _ | refine PS.put ?_ _ ?_ | ((try simp only[aC,aE]) <;> omega))) fun st1 id h1 k1 hi1 hi2 gid1=>?_)
 simp only[aC] at hi1
 have n_k1:=k1.le; (try simp only[aC,aE] at n_k1)
 have K1:KP p p st st1:=(by repeat' (first | exact KP.trans (by repeat' (first | exact KP.refl | exact KP.refl | refine KP.eI ?_ | refine KP.loc ?_ ?_ | exact Or.inl rfl | exact Or.inr (Or.inl rfl) | ((try simp only[aC,aE]) <;> omega))) k1 | refine KP.eI ?_ | refine KP.loc ?_ ?_ | exact Or.inl rfl | exact Or.inr (Or.inl rfl) | ((try simp only[aC,aE]) <;> omega)))
 have gib1:st1.aS.get st.next=.some (.cells 49 true [.ref p 0]):=by simp(disch:=(first | ((repeat(first | rw[aC] | rw[aE] | rw[List.length_cons] | rw[List.length_nil])) <;> omega) | (refine(?_:_∧True).1; constructor; simp only[aM, *]; exact True.intro))) only[dH,k1.2.1]
 have gr1:st1.aS.get (st.next+1)=.some (.cells 32 true [(.int .i64 0),(.str []),(.int .i64 0),(.bool false),(.int .i64 0),(.str []),AV.aB,AV.aB,AV.aB,AV.aB]):=by simp(disch:=(first | ((repeat(first | rw[aC] | rw[aE] | rw[List.length_cons] | rw[List.length_nil])) <;> omega) | (refine(?_:_∧True).1; constructor; simp only[aM, *]; exact True.intro))) only[dH,k1.2.1]
 have h10:=h1
 obtain⟨x1,a1,t1,u1,hg1,hr1,hi1',hp1⟩:=h1
 repeat(refine T.step (by simp(disch:=(first | ((repeat(first | rw[aC] | rw[aE] | rw[List.length_cons] | rw[List.length_nil])) <;> omega) | (refine(?_:_∧True).1; constructor; simp only[aM, *]; exact True.intro))) only[bB,gib1,hg1,FQ hr1 hi1',Oo]; try exact rfl) ?_)
 have h2:PS ws ((st1.push (.cells 26 true [.int .i64 0,.str [],.int .i64 0])).put st1.next (.cells 26 true [.int .i64 (wd ws (cS z).i).1,.str (wd ws (cS z).i).2.1,.int .i64 (wd ws (cS z).i).2.2])) p (cS z):=(by repeat' (first | exact h10 | refine PS.push ?_ _ | refine PS.put ?_ _ ?_ | ((try simp only[aC,aE]) <;> omega)))
 have K2:KP p p st ((st1.push (.cells 26 true [.int .i64 0,.str [],.int .i64 0])).put st1.next (.cells 26 true [.int .i64 (wd ws (cS z).i).1,.str (wd ws (cS z).i).2.1,.int .i64 (wd ws (cS z).i).2.2])):=(by repeat' (first | exact K1 | exact KP.refl | refine KP.eI ?_ | refine KP.loc ?_ ?_ | exact Or.inl rfl | exact Or.inr (Or.inl rfl) | ((try simp only[aC,aE]) <;> omega)))
 rcases e3:iC ws (cS z) [45] with⟨b3,z1⟩
 rw[e3] at hb
 refine T.bind (rV W h2 e3 fun st3 h3 k3=>?_)
 have n_k3:=k3.le; (try simp only[aC,aE] at n_k3)
 have K3:=K2.trans k3
 have gib3:st3.aS.get st.next=.some (.cells 49 true [.ref p 0]):=by simp(disch:=(first | ((repeat(first | rw[aC] | rw[aE] | rw[List.length_cons] | rw[List.length_nil])) <;> omega) | (refine(?_:_∧True).1; constructor; simp only[aM, *]; exact True.intro))) only[dH,k3.2.1,gib1]
 have gr3:st3.aS.get (st.next+1)=.some (.cells 32 true [(.int .i64 0),(.str []),(.int .i64 0),(.bool false),(.int .i64 0),(.str []),AV.aB,AV.aB,AV.aB,AV.aB]):=by simp(disch:=(first | ((repeat(first | rw[aC] | rw[aE] | rw[List.length_cons] | rw[List.length_nil])) <;> omega) | (refine(?_:_∧True).1; constructor; simp only[aM, *]; exact True.intro))) only[dH,k3.2.1,gr1]
 have gid3:st3.aS.get id=.some (.cells 49 true [.ref p 0]):=by simp(disch:=(first | ((repeat(first | rw[aC] | rw[aE] | rw[List.length_cons] | rw[List.length_nil])) <;> omega) | (refine(?_:_∧True).1; constructor; simp only[aM, *]; exact True.intro))) only[dH,k3.2.1,gid1]
 have gw3:st3.aS.get st1.next=.some (.cells 26 true [.int .i64 (wd ws (cS z).i).1,.str (wd ws (cS z).i).2.1,.int .i64 (wd ws (cS z).i).2.2]):=by simp(disch:=(first | ((repeat(first | rw[aC] | rw[aE] | rw[List.length_cons] | rw[List.length_nil])) <;> omega) | (refine(?_:_∧True).1; constructor; simp only[aM, *]; exact True.intro))) only[dH,k3.2.1]
 cases b3 with
 | true =>
   obtain⟨q,hq,hb⟩:=Option.bind_eq_some_iff.1 hb
   obtain⟨x,z2⟩:=q
   obtain⟨rfl,rfl⟩:=Prod.mk.inj (Option.some.inj hb)
   refine T.jC rfl ?_
   repeat(refine T.step (by simp(disch:=(first | ((repeat(first | rw[aC] | rw[aE] | rw[List.length_cons] | rw[List.length_nil])) <;> omega) | (refine(?_:_∧True).1; constructor; simp only[aM, *]; exact True.intro))) only[bB,gib3]; try exact rfl) ?_)
   refine T.bind (HR.u h3 hq fun st4 kv nv hx h4 k4=>?_)
   have n_k4:=k4.le; (try simp only[aC,aE] at n_k4)
   have K4:KP p p st st4:=(by repeat' (first | exact KP.trans (by repeat' (first | exact K3 | exact KP.refl | refine KP.eI ?_ | refine KP.loc ?_ ?_ | exact Or.inl rfl | exact Or.inr (Or.inl rfl) | ((try simp only[aC,aE]) <;> omega))) k4 | refine KP.eI ?_ | refine KP.loc ?_ ?_ | exact Or.inl rfl | exact Or.inr (Or.inl rfl) | ((try simp only[aC,aE]) <;> omega)))
   have gib4:st4.aS.get st.next=.some (.cells 49 true [.ref p 0]):=by simp(disch:=(first | ((repeat(first | rw[aC] | rw[aE] | rw[List.length_cons] | rw[List.length_nil])) <;> omega) | (refine(?_:_∧True).1; constructor; simp only[aM, *]; exact True.intro))) only[dH,k4.2.1,gib3]
   have gr4:st4.aS.get (st.next+1)=.some (.cells 32 true [(.int .i64 0),(.str []),(.int .i64 0),(.bool false),(.int .i64 0),(.str []),AV.aB,AV.aB,AV.aB,AV.aB]):=by simp(disch:=(first | ((repeat(first | rw[aC] | rw[aE] | rw[List.length_cons] | rw[List.length_nil])) <;> omega) | (refine(?_:_∧True).1; constructor; simp only[aM, *]; exact True.intro))) only[dH,k4.2.1,gr3]
   have gid4:st4.aS.get id=.some (.cells 49 true [.ref p 0]):=by simp(disch:=(first | ((repeat(first | rw[aC] | rw[aE] | rw[List.length_cons] | rw[List.length_nil])) <;> omega) | (refine(?_:_∧True).1; constructor; simp only[aM, *]; exact True.intro))) only[dH,k4.2.1,gid3]
   have gw4:st4.aS.get st1.next=.some (.cells 26 true [.int .i64 (wd ws (cS z).i).1,.str (wd ws (cS z).i).2.1,.int .i64 (wd ws (cS z).i).2.2]):=by simp(disch:=(first | ((repeat(first | rw[aC] | rw[aE] | rw[List.length_cons] | rw[List.length_nil])) <;> omega) | (refine(?_:_∧True).1; constructor; simp only[aM, *]; exact True.intro))) only[dH,k4.2.1,gw3]
   obtain⟨o1,o2⟩:=hx.one
   repeat(refine T.step (by simp(disch:=(first | ((repeat(first | rw[aC] | rw[aE] | rw[List.length_cons] | rw[List.length_nil])) <;> omega) | (refine(?_:_∧True).1; constructor; simp only[aM, *]; exact True.intro))) only[bB,gib4]; try exact rfl) ?_)
   refine T.jC Jt ?_
   refine T.step (tL (P:=C0.P) (t:=30) (v:=.agg (pM x kv nv)) _ rfl (nZ hx) (by decide)) ?_
   refine T.step (N5 rfl) ?_
   refine T.bind (o8 (ws:=ws) (z:=z2) (by repeat' (first | exact h4 | refine PS.push ?_ _ | refine PS.put ?_ _ ?_ | ((try simp only[aC,aE]) <;> omega))) rfl rfl rfl rfl fun st5 h5 k5=>?_)
   have n_k5:=k5.le; (try simp only[aC,aE] at n_k5)
   have K5:KP p p st st5:=(by repeat' (first | exact KP.trans (by repeat' (first | exact K4 | exact KP.refl | refine KP.eI ?_ | refine KP.loc ?_ ?_ | exact Or.inl rfl | exact Or.inr (Or.inl rfl) | ((try simp only[aC,aE]) <;> omega))) k5 | refine KP.eI ?_ | refine KP.loc ?_ ?_ | exact Or.inl rfl | exact Or.inr (Or.inl rfl) | ((try simp only[aC,aE]) <;> omega)))
   have gib5:st5.aS.get st.next=.some (.cells 49 true [.ref p 0]):=by simp(disch:=(first | ((repeat(first | rw[aC] | rw[aE] | rw[List.length_cons] | rw[List.length_nil])) <;> omega) | (refine(?_:_∧True).1; constructor; simp only[aM, *]; exact True.intro))) only[dH,k5.2.1,gib4]
   have gr5:st5.aS.get (st.next+1)=.some (.cells 32 true [(.int .i64 0),(.str []),(.int .i64 0),(.bool false),(.int .i64 0),(.str []),AV.aB,AV.aB,AV.aB,AV.aB]):=by simp(disch:=(first | ((repeat(first | rw[aC] | rw[aE] | rw[List.length_cons] | rw[List.length_nil])) <;> omega) | (refine(?_:_∧True).1; constructor; simp only[aM, *]; exact True.intro))) only[dH,k5.2.1,gr4]
   have gid5:st5.aS.get id=.some (.cells 49 true [.ref p 0]):=by simp(disch:=(first | ((repeat(first | rw[aC] | rw[aE] | rw[List.length_cons] | rw[List.length_nil])) <;> omega) | (refine(?_:_∧True).1; constructor; simp only[aM, *]; exact True.intro))) only[dH,k5.2.1,gid4]
   have gw5:st5.aS.get st1.next=.some (.cells 26 true [.int .i64 (wd ws (cS z).i).1,.str (wd ws (cS z).i).2.1,.int .i64 (wd ws (cS z).i).2.2]):=by simp(disch:=(first | ((repeat(first | rw[aC] | rw[aE] | rw[List.length_cons] | rw[List.length_nil])) <;> omega) | (refine(?_:_∧True).1; constructor; simp only[aM, *]; exact True.intro))) only[dH,k5.2.1,gw4]
   repeat(refine T.step (by simp(disch:=(first | ((repeat(first | rw[aC] | rw[aE] | rw[List.length_cons] | rw[List.length_nil])) <;> omega) | (refine(?_:_∧True).1; constructor; simp only[aM, *]; exact True.intro))) only[bB,gr5]; try exact rfl) ?_)
   refine T.bind (Cq (ws:=ws) (p:=p) (id:=id) (z:=gJ z2) (by repeat' (first | exact h5 | refine PS.push ?_ _ | refine PS.put ?_ _ ?_ | ((try simp only[aC,aE]) <;> omega))) ?_ fun st6 h6 k6=>?_)
   ·simp(disch:=(first | ((repeat(first | rw[aC] | rw[aE] | rw[List.length_cons] | rw[List.length_nil])) <;> omega) | (refine(?_:_∧True).1; constructor; simp only[aM, *]; exact True.intro))) only[dH,gid5]
   have n_k6:=k6.le; (try simp only[aC,aE] at n_k6)
   have K6:KP p p st st6:=(by repeat' (first | exact KP.trans (by repeat' (first | exact K5 | exact KP.refl | refine KP.eI ?_ | refine KP.loc ?_ ?_ | exact Or.inl rfl | exact Or.inr (Or.inl rfl) | ((try simp only[aC,aE]) <;> omega))) k6 | refine KP.eI ?_ | refine KP.loc ?_ ?_ | exact Or.inl rfl | exact Or.inr (Or.inl rfl) | ((try simp only[aC,aE]) <;> omega)))
   repeat(refine T.step (by simp(disch:=(first | ((repeat(first | rw[aC] | rw[aE] | rw[List.length_cons] | rw[List.length_nil])) <;> omega) | (refine(?_:_∧True).1; constructor; simp only[aM, *]; exact True.intro))) only[bB,k6.2.1]; try exact rfl) ?_)
   exact T.some (hφ _ _ _ (RX.un hx) h6 K6)
 | false =>
   refine T.lG (by decide) ?_
   simp only at hb
   repeat(refine T.step (by simp(disch:=(first | ((repeat(first | rw[aC] | rw[aE] | rw[List.length_cons] | rw[List.length_nil])) <;> omega) | (refine(?_:_∧True).1; constructor; simp only[aM, *]; exact True.intro))) only[bB,gib3]; try exact rfl) ?_)
   rcases e4:iC ws z1 [40] with⟨b4,z2⟩
   rw[e4] at hb
   refine T.bind (rV W (by repeat' (first | exact h3 | refine PS.push ?_ _ | refine PS.put ?_ _ ?_ | ((try simp only[aC,aE]) <;> omega))) e4 fun st4 h4 k4=>?_)
   have n_k4:=k4.le; (try simp only[aC,aE] at n_k4)
   have K4:KP p p st st4:=(by repeat' (first | exact KP.trans (by repeat' (first | exact K3 | exact KP.refl | refine KP.eI ?_ | refine KP.loc ?_ ?_ | exact Or.inl rfl | exact Or.inr (Or.inl rfl) | ((try simp only[aC,aE]) <;> omega))) k4 | refine KP.eI ?_ | refine KP.loc ?_ ?_ | exact Or.inl rfl | exact Or.inr (Or.inl rfl) | ((try simp only[aC,aE]) <;> omega)))
   have gib4:st4.aS.get st.next=.some (.cells 49 true [.ref p 0]):=by simp(disch:=(first | ((repeat(first | rw[aC] | rw[aE] | rw[List.length_cons] | rw[List.length_nil])) <;> omega) | (refine(?_:_∧True).1; constructor; simp only[aM, *]; exact True.intro))) only[dH,k4.2.1,gib3]
   have gr4:st4.aS.get (st.next+1)=.some (.cells 32 true [(.int .i64 0),(.str []),(.int .i64 0),(.bool false),(.int .i64 0),(.str []),AV.aB,AV.aB,AV.aB,AV.aB]):=by simp(disch:=(first | ((repeat(first | rw[aC] | rw[aE] | rw[List.length_cons] | rw[List.length_nil])) <;> omega) | (refine(?_:_∧True).1; constructor; simp only[aM, *]; exact True.intro))) only[dH,k4.2.1,gr3]
   have gid4:st4.aS.get id=.some (.cells 49 true [.ref p 0]):=by simp(disch:=(first | ((repeat(first | rw[aC] | rw[aE] | rw[List.length_cons] | rw[List.length_nil])) <;> omega) | (refine(?_:_∧True).1; constructor; simp only[aM, *]; exact True.intro))) only[dH,k4.2.1,gid3]
   have gw4:st4.aS.get st1.next=.some (.cells 26 true [.int .i64 (wd ws (cS z).i).1,.str (wd ws (cS z).i).2.1,.int .i64 (wd ws (cS z).i).2.2]):=by simp(disch:=(first | ((repeat(first | rw[aC] | rw[aE] | rw[List.length_cons] | rw[List.length_nil])) <;> omega) | (refine(?_:_∧True).1; constructor; simp only[aM, *]; exact True.intro))) only[dH,k4.2.1,gw3]
   cases b4 with
   | true =>
     obtain⟨q,hq,hb⟩:=Option.bind_eq_some_iff.1 hb
     obtain⟨x,z3⟩:=q
     obtain⟨rfl,rfl⟩:=Prod.mk.inj (Option.some.inj hb)
     refine T.jC rfl ?_
     repeat(refine T.step (by simp(disch:=(first | ((repeat(first | rw[aC] | rw[aE] | rw[List.length_cons] | rw[List.length_nil])) <;> omega) | (refine(?_:_∧True).1; constructor; simp only[aM, *]; exact True.intro))) only[bB,gib4]; try exact rfl) ?_)
     refine T.bind (xN W HR (by decide) (by decide) h4 hq fun st5 kv nv hx h5 k5=>?_)
     have n_k5:=k5.le; (try simp only[aC,aE] at n_k5)
     have K5:KP p p st st5:=(by repeat' (first | exact KP.trans (by repeat' (first | exact K4 | exact KP.refl | refine KP.eI ?_ | refine KP.loc ?_ ?_ | exact Or.inl rfl | exact Or.inr (Or.inl rfl) | ((try simp only[aC,aE]) <;> omega))) k5 | refine KP.eI ?_ | refine KP.loc ?_ ?_ | exact Or.inl rfl | exact Or.inr (Or.inl rfl) | ((try simp only[aC,aE]) <;> omega)))
     have gib5:st5.aS.get st.next=.some (.cells 49 true [.ref p 0]):=by simp(disch:=(first | ((repeat(first | rw[aC] | rw[aE] | rw[List.length_cons] | rw[List.length_nil])) <;> omega) | (refine(?_:_∧True).1; constructor; simp only[aM, *]; exact True.intro))) only[dH,k5.2.1,gib4]
     have gr5:st5.aS.get (st.next+1)=.some (.cells 32 true [(.int .i64 0),(.str []),(.int .i64 0),(.bool false),(.int .i64 0),(.str []),AV.aB,AV.aB,AV.aB,AV.aB]):=by simp(disch:=(first | ((repeat(first | rw[aC] | rw[aE] | rw[List.length_cons] | rw[List.length_nil])) <;> omega) | (refine(?_:_∧True).1; constructor; simp only[aM, *]; exact True.intro))) only[dH,k5.2.1,gr4]
     have gid5:st5.aS.get id=.some (.cells 49 true [.ref p 0]):=by simp(disch:=(first | ((repeat(first | rw[aC] | rw[aE] | rw[List.length_cons] | rw[List.length_nil])) <;> omega) | (refine(?_:_∧True).1; constructor; simp only[aM, *]; exact True.intro))) only[dH,k5.2.1,gid4]
     have gw5:st5.aS.get st1.next=.some (.cells 26 true [.int .i64 (wd ws (cS z).i).1,.str (wd ws (cS z).i).2.1,.int .i64 (wd ws (cS z).i).2.2]):=by simp(disch:=(first | ((repeat(first | rw[aC] | rw[aE] | rw[List.length_cons] | rw[List.length_nil])) <;> omega) | (refine(?_:_∧True).1; constructor; simp only[aM, *]; exact True.intro))) only[dH,k5.2.1,gw4]
     obtain⟨o1,o2⟩:=hx.one
     repeat(refine T.step (by simp(disch:=(first | ((repeat(first | rw[aC] | rw[aE] | rw[List.length_cons] | rw[List.length_nil])) <;> omega) | (refine(?_:_∧True).1; constructor; simp only[aM, *]; exact True.intro))) only[bB,gib5]; try exact rfl) ?_)
     refine T.bind (Db (ws:=ws) (z:=z3) W (by repeat' (first | exact h5 | refine PS.push ?_ _ | refine PS.put ?_ _ ?_ | ((try simp only[aC,aE]) <;> omega))) fun st6 h6 k6=>?_)
     have n_k6:=k6.le; (try simp only[aC,aE] at n_k6)
     have K6:KP p p st st6:=(by repeat' (first | exact KP.trans (by repeat' (first | exact K5 | exact KP.refl | refine KP.eI ?_ | refine KP.loc ?_ ?_ | exact Or.inl rfl | exact Or.inr (Or.inl rfl) | ((try simp only[aC,aE]) <;> omega))) k6 | refine KP.eI ?_ | refine KP.loc ?_ ?_ | exact Or.inl rfl | exact Or.inr (Or.inl rfl) | ((try simp only[aC,aE]) <;> omega)))
     have gib6:st6.aS.get st.next=.some (.cells 49 true [.ref p 0]):=by simp(disch:=(first | ((repeat(first | rw[aC] | rw[aE] | rw[List.length_cons] | rw[List.length_nil])) <;> omega) | (refine(?_:_∧True).1; constructor; simp only[aM, *]; exact True.intro))) only[dH,k6.2.1,gib5]
     have gr6:st6.aS.get (st.next+1)=.some (.cells 32 true [(.int .i64 0),(.str []),(.int .i64 0),(.bool false),(.int .i64 0),(.str []),AV.aB,AV.aB,AV.aB,AV.aB]):=by simp(disch:=(first | ((repeat(first | rw[aC] | rw[aE] | rw[List.length_cons] | rw[List.length_nil])) <;> omega) | (refine(?_:_∧True).1; constructor; simp only[aM, *]; exact True.intro))) only[dH,k6.2.1,gr5]
     have gid6:st6.aS.get id=.some (.cells 49 true [.ref p 0]):=by simp(disch:=(first | ((repeat(first | rw[aC] | rw[aE] | rw[List.length_cons] | rw[List.length_nil])) <;> omega) | (refine(?_:_∧True).1; constructor; simp only[aM, *]; exact True.intro))) only[dH,k6.2.1,gid5]
     have gw6:st6.aS.get st1.next=.some (.cells 26 true [.int .i64 (wd ws (cS z).i).1,.str (wd ws (cS z).i).2.1,.int .i64 (wd ws (cS z).i).2.2]):=by simp(disch:=(first | ((repeat(first | rw[aC] | rw[aE] | rw[List.length_cons] | rw[List.length_nil])) <;> omega) | (refine(?_:_∧True).1; constructor; simp only[aM, *]; exact True.intro))) only[dH,k6.2.1,gw5]
     have gx6:st6.aS.get st5.next=.some (.cells 32 true (pM x kv nv)):=by simp(disch:=(first | ((repeat(first | rw[aC] | rw[aE] | rw[List.length_cons] | rw[List.length_nil])) <;> omega) | (refine(?_:_∧True).1; constructor; simp only[aM, *]; exact True.intro))) only[dH,k6.2.1]; rfl
     unfold pM at gx6
     repeat(refine T.step (by simp(disch:=(first | ((repeat(first | rw[aC] | rw[aE] | rw[List.length_cons] | rw[List.length_nil])) <;> omega) | (refine(?_:_∧True).1; constructor; simp only[aM, *]; exact True.intro))) only[bB,gx6,gr6]; try exact rfl) ?_)
     repeat(refine T.step (by simp(disch:=(first | ((repeat(first | rw[aC] | rw[aE] | rw[List.length_cons] | rw[List.length_nil])) <;> omega) | (refine(?_:_∧True).1; constructor; simp only[aM, *]; exact True.intro))) only[bB,gr6]; try exact rfl) ?_)
     refine T.bind (Cq (ws:=ws) (p:=p) (id:=id) (z:=dE ws z3 6 [41]) (by repeat' (first | exact h6 | refine PS.push ?_ _ | refine PS.put ?_ _ ?_ | ((try simp only[aC,aE]) <;> omega))) ?_ fun st7 h7 k7=>?_)
     ·simp(disch:=(first | ((repeat(first | rw[aC] | rw[aE] | rw[List.length_cons] | rw[List.length_nil])) <;> omega) | (refine(?_:_∧True).1; constructor; simp only[aM, *]; exact True.intro))) only[dH,gid6]
     have n_k7:=k7.le; (try simp only[aC,aE] at n_k7)
     have K7:KP p p st st7:=(by repeat' (first | exact KP.trans (by repeat' (first | exact K6 | exact KP.refl | refine KP.eI ?_ | refine KP.loc ?_ ?_ | exact Or.inl rfl | exact Or.inr (Or.inl rfl) | ((try simp only[aC,aE]) <;> omega))) k7 | refine KP.eI ?_ | refine KP.loc ?_ ?_ | exact Or.inl rfl | exact Or.inr (Or.inl rfl) | ((try simp only[aC,aE]) <;> omega)))
     repeat(refine T.step (by simp(disch:=(first | ((repeat(first | rw[aC] | rw[aE] | rw[List.length_cons] | rw[List.length_nil])) <;> omega) | (refine(?_:_∧True).1; constructor; simp only[aM, *]; exact True.intro))) only[bB,k7.2.1]; try exact rfl) ?_)
     exact T.some (hφ _ _ _ hx h7 K7)
   | false =>
     refine T.lG (by decide) ?_
     simp only at hb
     repeat(refine T.step (by simp(disch:=(first | ((repeat(first | rw[aC] | rw[aE] | rw[List.length_cons] | rw[List.length_nil])) <;> omega) | (refine(?_:_∧True).1; constructor; simp only[aM, *]; exact True.intro))) only[bB,gib4]; try exact rfl) ?_)
     rcases e5:iC ws z2 [91] with⟨b5,z3⟩
     rw[e5] at hb
     refine T.bind (rV W (by repeat' (first | exact h4 | refine PS.push ?_ _ | refine PS.put ?_ _ ?_ | ((try simp only[aC,aE]) <;> omega))) e5 fun st5 h5 k5=>?_)
     have n_k5:=k5.le; (try simp only[aC,aE] at n_k5)
     have K5:KP p p st st5:=(by repeat' (first | exact KP.trans (by repeat' (first | exact K4 | exact KP.refl | refine KP.eI ?_ | refine KP.loc ?_ ?_ | exact Or.inl rfl | exact Or.inr (Or.inl rfl) | ((try simp only[aC,aE]) <;> omega))) k5 | refine KP.eI ?_ | refine KP.loc ?_ ?_ | exact Or.inl rfl | exact Or.inr (Or.inl rfl) | ((try simp only[aC,aE]) <;> omega)))
     have gib5:st5.aS.get st.next=.some (.cells 49 true [.ref p 0]):=by simp(disch:=(first | ((repeat(first | rw[aC] | rw[aE] | rw[List.length_cons] | rw[List.length_nil])) <;> omega) | (refine(?_:_∧True).1; constructor; simp only[aM, *]; exact True.intro))) only[dH,k5.2.1,gib4]
     have gr5:st5.aS.get (st.next+1)=.some (.cells 32 true [(.int .i64 0),(.str []),(.int .i64 0),(.bool false),(.int .i64 0),(.str []),AV.aB,AV.aB,AV.aB,AV.aB]):=by simp(disch:=(first | ((repeat(first | rw[aC] | rw[aE] | rw[List.length_cons] | rw[List.length_nil])) <;> omega) | (refine(?_:_∧True).1; constructor; simp only[aM, *]; exact True.intro))) only[dH,k5.2.1,gr4]
     have gid5:st5.aS.get id=.some (.cells 49 true [.ref p 0]):=by simp(disch:=(first | ((repeat(first | rw[aC] | rw[aE] | rw[List.length_cons] | rw[List.length_nil])) <;> omega) | (refine(?_:_∧True).1; constructor; simp only[aM, *]; exact True.intro))) only[dH,k5.2.1,gid4]
     have gw5:st5.aS.get st1.next=.some (.cells 26 true [.int .i64 (wd ws (cS z).i).1,.str (wd ws (cS z).i).2.1,.int .i64 (wd ws (cS z).i).2.2]):=by simp(disch:=(first | ((repeat(first | rw[aC] | rw[aE] | rw[List.length_cons] | rw[List.length_nil])) <;> omega) | (refine(?_:_∧True).1; constructor; simp only[aM, *]; exact True.intro))) only[dH,k5.2.1,gw4]
     cases b5 with
     | true =>
       obtain⟨q,hq,hb⟩:=Option.bind_eq_some_iff.1 hb
       obtain⟨l,z4⟩:=q
       obtain⟨rfl,rfl⟩:=Prod.mk.inj (Option.some.inj hb)
       refine T.jC rfl ?_
       repeat(refine T.step (by simp(disch:=(first | ((repeat(first | rw[aC] | rw[aE] | rw[List.length_cons] | rw[List.length_nil])) <;> omega) | (refine(?_:_∧True).1; constructor; simp only[aM, *]; exact True.intro))) only[bB,gib5]; try exact rfl) ?_)
       unfold dW dM
       refine T.bind (T.bind (T.bind (Dd W HR (st0:=st5) (p:=p) (ib:=st.next) (out':=l) (z':=z4) (by omega) (by omega) (by omega) gib5 (fun st6 x kcs hS6 hE6 hf6 h6 k6=>?_) R.n h5 KP.refl (Sl.nil _ _) BV.nil (fun id hi=>hi.elim) hq)))
       refine T.some ?_
       refine T.some ?_
       have n_k6:=k6.le; (try simp only[aC,aE] at n_k6)
       have K6:KP p p st st6:=(by repeat' (first | exact KP.trans (by repeat' (first | exact K5 | exact KP.refl | refine KP.eI ?_ | refine KP.loc ?_ ?_ | exact Or.inl rfl | exact Or.inr (Or.inl rfl) | ((try simp only[aC,aE]) <;> omega))) k6 | refine KP.eI ?_ | refine KP.loc ?_ ?_ | exact Or.inl rfl | exact Or.inr (Or.inl rfl) | ((try simp only[aC,aE]) <;> omega)))
       have gib6:st6.aS.get st.next=.some (.cells 49 true [.ref p 0]):=by simp(disch:=(first | ((repeat(first | rw[aC] | rw[aE] | rw[List.length_cons] | rw[List.length_nil])) <;> omega) | (refine(?_:_∧True).1; constructor; simp only[aM, *]; exact True.intro))) only[dH,k6.2.1,gib5]
       have gr6:st6.aS.get (st.next+1)=.some (.cells 32 true [(.int .i64 0),(.str []),(.int .i64 0),(.bool false),(.int .i64 0),(.str []),AV.aB,AV.aB,AV.aB,AV.aB]):=by simp(disch:=(first | ((repeat(first | rw[aC] | rw[aE] | rw[List.length_cons] | rw[List.length_nil])) <;> omega) | (refine(?_:_∧True).1; constructor; simp only[aM, *]; exact True.intro))) only[dH,k6.2.1,gr5]
       have gid6:st6.aS.get id=.some (.cells 49 true [.ref p 0]):=by simp(disch:=(first | ((repeat(first | rw[aC] | rw[aE] | rw[List.length_cons] | rw[List.length_nil])) <;> omega) | (refine(?_:_∧True).1; constructor; simp only[aM, *]; exact True.intro))) only[dH,k6.2.1,gid5]
       have gw6:st6.aS.get st1.next=.some (.cells 26 true [.int .i64 (wd ws (cS z).i).1,.str (wd ws (cS z).i).2.1,.int .i64 (wd ws (cS z).i).2.2]):=by simp(disch:=(first | ((repeat(first | rw[aC] | rw[aE] | rw[List.length_cons] | rw[List.length_nil])) <;> omega) | (refine(?_:_∧True).1; constructor; simp only[aM, *]; exact True.intro))) only[dH,k6.2.1,gw5]
       have o1:=Sl.one hS6
       refine T.step (N5 o1) ?_
       have hx:RX (.mk 7 [] V0 l []) x .aB:=RX.mk hE6 hS6.row (.inl ⟨rfl,rfl⟩)
       repeat(refine T.step (by simp(disch:=(first | ((repeat(first | rw[aC] | rw[aE] | rw[List.length_cons] | rw[List.length_nil])) <;> omega) | (refine(?_:_∧True).1; constructor; simp only[aM, *]; exact True.intro))) only[bB,gib6]; try exact rfl) ?_)
       refine T.bind (o8 (ws:=ws) (z:=z4) (by repeat' (first | exact h6 | refine PS.push ?_ _ | refine PS.put ?_ _ ?_ | ((try simp only[aC,aE]) <;> omega))) rfl rfl o1 rfl fun st7 h7 k7=>?_)
       have n_k7:=k7.le; (try simp only[aC,aE] at n_k7)
       have K7:KP p p st st7:=(by repeat' (first | exact KP.trans (by repeat' (first | exact K6 | exact KP.refl | refine KP.eI ?_ | refine KP.loc ?_ ?_ | exact Or.inl rfl | exact Or.inr (Or.inl rfl) | ((try simp only[aC,aE]) <;> omega))) k7 | refine KP.eI ?_ | refine KP.loc ?_ ?_ | exact Or.inl rfl | exact Or.inr (Or.inl rfl) | ((try simp only[aC,aE]) <;> omega)))
       have gib7:st7.aS.get st.next=.some (.cells 49 true [.ref p 0]):=by simp(disch:=(first | ((repeat(first | rw[aC] | rw[aE] | rw[List.length_cons] | rw[List.length_nil])) <;> omega) | (refine(?_:_∧True).1; constructor; simp only[aM, *]; exact True.intro))) only[dH,k7.2.1,gib6]
       have gr7:st7.aS.get (st.next+1)=.some (.cells 32 true [(.int .i64 0),(.str []),(.int .i64 0),(.bool false),(.int .i64 0),(.str []),AV.aB,AV.aB,AV.aB,AV.aB]):=by simp(disch:=(first | ((repeat(first | rw[aC] | rw[aE] | rw[List.length_cons] | rw[List.length_nil])) <;> omega) | (refine(?_:_∧True).1; constructor; simp only[aM, *]; exact True.intro))) only[dH,k7.2.1,gr6]
       have gid7:st7.aS.get id=.some (.cells 49 true [.ref p 0]):=by simp(disch:=(first | ((repeat(first | rw[aC] | rw[aE] | rw[List.length_cons] | rw[List.length_nil])) <;> omega) | (refine(?_:_∧True).1; constructor; simp only[aM, *]; exact True.intro))) only[dH,k7.2.1,gid6]
       have gw7:st7.aS.get st1.next=.some (.cells 26 true [.int .i64 (wd ws (cS z).i).1,.str (wd ws (cS z).i).2.1,.int .i64 (wd ws (cS z).i).2.2]):=by simp(disch:=(first | ((repeat(first | rw[aC] | rw[aE] | rw[List.length_cons] | rw[List.length_nil])) <;> omega) | (refine(?_:_∧True).1; constructor; simp only[aM, *]; exact True.intro))) only[dH,k7.2.1,gw6]
       repeat(refine T.step (by simp(disch:=(first | ((repeat(first | rw[aC] | rw[aE] | rw[List.length_cons] | rw[List.length_nil])) <;> omega) | (refine(?_:_∧True).1; constructor; simp only[aM, *]; exact True.intro))) only[bB,gr7]; try exact rfl) ?_)
       refine T.bind (Cq (ws:=ws) (p:=p) (id:=id) (z:=gJ z4) (by repeat' (first | exact h7 | refine PS.push ?_ _ | refine PS.put ?_ _ ?_ | ((try simp only[aC,aE]) <;> omega))) ?_ fun st8 h8 k8=>?_)
       ·simp(disch:=(first | ((repeat(first | rw[aC] | rw[aE] | rw[List.length_cons] | rw[List.length_nil])) <;> omega) | (refine(?_:_∧True).1; constructor; simp only[aM, *]; exact True.intro))) only[dH,gid7]
       have n_k8:=k8.le; (try simp only[aC,aE] at n_k8)
       have K8:KP p p st st8:=(by repeat' (first | exact KP.trans (by repeat' (first | exact K7 | exact KP.refl | refine KP.eI ?_ | refine KP.loc ?_ ?_ | exact Or.inl rfl | exact Or.inr (Or.inl rfl) | ((try simp only[aC,aE]) <;> omega))) k8 | refine KP.eI ?_ | refine KP.loc ?_ ?_ | exact Or.inl rfl | exact Or.inr (Or.inl rfl) | ((try simp only[aC,aE]) <;> omega)))
       repeat(refine T.step (by simp(disch:=(first | ((repeat(first | rw[aC] | rw[aE] | rw[List.length_cons] | rw[List.length_nil])) <;> omega) | (refine(?_:_∧True).1; constructor; simp only[aM, *]; exact True.intro))) only[bB,k8.2.1]; try exact rfl) ?_)
       exact T.some (hφ _ _ _ hx h8 K8)
     | false =>
       refine T.lG (by decide) ?_
       simp only at hb
       repeat(refine T.step (by simp(disch:=(first | ((repeat(first | rw[aC] | rw[aE] | rw[List.length_cons] | rw[List.length_nil])) <;> omega) | (refine(?_:_∧True).1; constructor; simp only[aM, *]; exact True.intro))) only[bB,gib5]; try exact rfl) ?_)
       rcases e6:iC ws z3 [123] with⟨b6,z4⟩
       rw[e6] at hb
       refine T.bind (rV W (by repeat' (first | exact h5 | refine PS.push ?_ _ | refine PS.put ?_ _ ?_ | ((try simp only[aC,aE]) <;> omega))) e6 fun st6 h6 k6=>?_)
       have n_k6:=k6.le; (try simp only[aC,aE] at n_k6)
       have K6:KP p p st st6:=(by repeat' (first | exact KP.trans (by repeat' (first | exact K5 | exact KP.refl | refine KP.eI ?_ | refine KP.loc ?_ ?_ | exact Or.inl rfl | exact Or.inr (Or.inl rfl) | ((try simp only[aC,aE]) <;> omega))) k6 | refine KP.eI ?_ | refine KP.loc ?_ ?_ | exact Or.inl rfl | exact Or.inr (Or.inl rfl) | ((try simp only[aC,aE]) <;> omega)))
       have gib6:st6.aS.get st.next=.some (.cells 49 true [.ref p 0]):=by simp(disch:=(first | ((repeat(first | rw[aC] | rw[aE] | rw[List.length_cons] | rw[List.length_nil])) <;> omega) | (refine(?_:_∧True).1; constructor; simp only[aM, *]; exact True.intro))) only[dH,k6.2.1,gib5]
       have gr6:st6.aS.get (st.next+1)=.some (.cells 32 true [(.int .i64 0),(.str []),(.int .i64 0),(.bool false),(.int .i64 0),(.str []),AV.aB,AV.aB,AV.aB,AV.aB]):=by simp(disch:=(first | ((repeat(first | rw[aC] | rw[aE] | rw[List.length_cons] | rw[List.length_nil])) <;> omega) | (refine(?_:_∧True).1; constructor; simp only[aM, *]; exact True.intro))) only[dH,k6.2.1,gr5]
       have gid6:st6.aS.get id=.some (.cells 49 true [.ref p 0]):=by simp(disch:=(first | ((repeat(first | rw[aC] | rw[aE] | rw[List.length_cons] | rw[List.length_nil])) <;> omega) | (refine(?_:_∧True).1; constructor; simp only[aM, *]; exact True.intro))) only[dH,k6.2.1,gid5]
       have gw6:st6.aS.get st1.next=.some (.cells 26 true [.int .i64 (wd ws (cS z).i).1,.str (wd ws (cS z).i).2.1,.int .i64 (wd ws (cS z).i).2.2]):=by simp(disch:=(first | ((repeat(first | rw[aC] | rw[aE] | rw[List.length_cons] | rw[List.length_nil])) <;> omega) | (refine(?_:_∧True).1; constructor; simp only[aM, *]; exact True.intro))) only[dH,k6.2.1,gw5]
       cases b6 with
       | true =>
         obtain⟨q,hq,hb⟩:=Option.bind_eq_some_iff.1 hb
         obtain⟨l,names,z5⟩:=q
         obtain⟨rfl,rfl⟩:=Prod.mk.inj (Option.some.inj hb)
         refine T.jC rfl ?_
         repeat(refine T.step (by simp(disch:=(first | ((repeat(first | rw[aC] | rw[aE] | rw[List.length_cons] | rw[List.length_nil])) <;> omega) | (refine(?_:_∧True).1; constructor; simp only[aM, *]; exact True.intro))) only[bB,gib6]; try exact rfl) ?_)
         have h7:PS ws (((st6.push (.cells 22 true [AV.aB])).push (.cells 32 true [(.int .i64 0),(.str []),(.int .i64 0),(.bool false),(.int .i64 0),(.str []),AV.aB,AV.aB,AV.aB,AV.aB])).put (st6.next+1) (.cells 32 true [(.int .i64 8),(.str []),(.int .i64 0),(.bool false),(.int .i64 0),(.str []),AV.aB,AV.aB,AV.aB,AV.aB])) p z4:=(by repeat' (first | exact h6 | refine PS.push ?_ _ | refine PS.put ?_ _ ?_ | ((try simp only[aC,aE]) <;> omega)))
         have K7:KP p p st (((st6.push (.cells 22 true [AV.aB])).push (.cells 32 true [(.int .i64 0),(.str []),(.int .i64 0),(.bool false),(.int .i64 0),(.str []),AV.aB,AV.aB,AV.aB,AV.aB])).put (st6.next+1) (.cells 32 true [(.int .i64 8),(.str []),(.int .i64 0),(.bool false),(.int .i64 0),(.str []),AV.aB,AV.aB,AV.aB,AV.aB])):=(by repeat' (first | exact K6 | exact KP.refl | refine KP.eI ?_ | refine KP.loc ?_ ?_ | exact Or.inl rfl | exact Or.inr (Or.inl rfl) | ((try simp only[aC,aE]) <;> omega)))
         have gib7:(((st6.push (.cells 22 true [AV.aB])).push (.cells 32 true [(.int .i64 0),(.str []),(.int .i64 0),(.bool false),(.int .i64 0),(.str []),AV.aB,AV.aB,AV.aB,AV.aB])).put (st6.next+1) (.cells 32 true [(.int .i64 8),(.str []),(.int .i64 0),(.bool false),(.int .i64 0),(.str []),AV.aB,AV.aB,AV.aB,AV.aB])).aS.get st.next=.some (.cells 49 true [.ref p 0]):=by simp(disch:=(first | ((repeat(first | rw[aC] | rw[aE] | rw[List.length_cons] | rw[List.length_nil])) <;> omega) | (refine(?_:_∧True).1; constructor; simp only[aM, *]; exact True.intro))) only[dH,gib6]
         have gd7:(((st6.push (.cells 22 true [AV.aB])).push (.cells 32 true [(.int .i64 0),(.str []),(.int .i64 0),(.bool false),(.int .i64 0),(.str []),AV.aB,AV.aB,AV.aB,AV.aB])).put (st6.next+1) (.cells 32 true [(.int .i64 8),(.str []),(.int .i64 0),(.bool false),(.int .i64 0),(.str []),AV.aB,AV.aB,AV.aB,AV.aB])).aS.get st6.next=.some (.cells 22 true [.aB]):=by simp(disch:=(first | ((repeat(first | rw[aC] | rw[aE] | rw[List.length_cons] | rw[List.length_nil])) <;> omega) | (refine(?_:_∧True).1; constructor; simp only[aM, *]; exact True.intro))) only[dH]
         unfold dU dL
         refine T.bind (T.bind (T.bind (Dh W HR (st0:=((st6.push (.cells 22 true [AV.aB])).push (.cells 32 true [(.int .i64 0),(.str []),(.int .i64 0),(.bool false),(.int .i64 0),(.str []),AV.aB,AV.aB,AV.aB,AV.aB])).put (st6.next+1) (.cells 32 true [(.int .i64 8),(.str []),(.int .i64 0),(.bool false),(.int .i64 0),(.str []),AV.aB,AV.aB,AV.aB,AV.aB])) (p:=p) (ib:=st.next) (dn:=st6.next) (out':=l) (names':=names) (z':=z5) (by((try simp only[aC,aE]) <;> omega)) (by((try simp only[aC,aE]) <;> omega)) (by omega) (by omega) gib7 (by((try simp only[aC,aE]) <;> omega)) (by omega) (fun st8 x kcs nv hS8 hE8 hd8 hN8 h8 k8=>?_) R.n h7 KP.refl (Sl.nil _ _) BV.nil (fun id hi=>hi.elim) gd7 (names:=[]) (Sl.nil _ _) (fun id hi=>hi.elim) (fun id hi=>hi.elim) hq)))
         refine T.some ?_
         refine T.some ?_
         have n_k8:=k8.le; (try simp only[aC,aE] at n_k8)
         have gib8:st8.aS.get st.next=.some (.cells 49 true [.ref p 0]):=by simp(disch:=(first | ((repeat(first | rw[aC] | rw[aE] | rw[List.length_cons] | rw[List.length_nil])) <;> omega) | (refine(?_:_∧True).1; constructor; simp only[aM, *]; exact True.intro))) only[dH,k8.2.1,gib7]
         have gr8:st8.aS.get (st.next+1)=.some (.cells 32 true [(.int .i64 0),(.str []),(.int .i64 0),(.bool false),(.int .i64 0),(.str []),AV.aB,AV.aB,AV.aB,AV.aB]):=by simp(disch:=(first | ((repeat(first | rw[aC] | rw[aE] | rw[List.length_cons] | rw[List.length_nil])) <;> omega) | (refine(?_:_∧True).1; constructor; simp only[aM, *]; exact True.intro))) only[dH,k8.2.1,gr6]
         have gid8:st8.aS.get id=.some (.cells 49 true [.ref p 0]):=by simp(disch:=(first | ((repeat(first | rw[aC] | rw[aE] | rw[List.length_cons] | rw[List.length_nil])) <;> omega) | (refine(?_:_∧True).1; constructor; simp only[aM, *]; exact True.intro))) only[dH,k8.2.1,gid6]
         have ge8:st8.aS.get (st6.next+1)=.some (.cells 32 true [(.int .i64 8),(.str []),(.int .i64 0),(.bool false),(.int .i64 0),(.str []),AV.aB,AV.aB,AV.aB,AV.aB]):=by simp(disch:=(first | ((repeat(first | rw[aC] | rw[aE] | rw[List.length_cons] | rw[List.length_nil])) <;> omega) | (refine(?_:_∧True).1; constructor; simp only[aM, *]; exact True.intro))) only[dH,k8.2.1]
         have K8:KP p p st st8:=⟨by omega,fun i h1 h2 h3=>(k8.get (by((try simp only[aC,aE]) <;> omega)) h2 (by omega)).trans (K7.get h1 h2 h3),k8.2.2.trans K7.2.2⟩
         have o1:=Sl.one hS8
         have o2:=Sl.one hN8
         have hx:RX (.mk 8 [] V0 l names) x nv:=RX.mk hE8 hS8.row hN8.row
         repeat(refine T.step (by simp(disch:=(first | ((repeat(first | rw[aC] | rw[aE] | rw[List.length_cons] | rw[List.length_nil])) <;> omega) | (refine(?_:_∧True).1; constructor; simp only[aM, *]; exact True.intro))) only[bB,ge8,hd8,gib8,Mh o1,Mh o2]; try exact rfl) ?_)
         refine T.bind (o8 (ws:=ws) (z:=z5) (by repeat' (first | exact h8 | refine PS.push ?_ _ | refine PS.put ?_ _ ?_ | ((try simp only[aC,aE]) <;> omega))) rfl rfl o1 o2 fun st9 h9 k9=>?_)
         have n_k9:=k9.le; (try simp only[aC,aE] at n_k9)
         have K9:KP p p st st9:=(by repeat' (first | exact KP.trans (by repeat' (first | exact K8 | exact KP.refl | refine KP.eI ?_ | refine KP.loc ?_ ?_ | exact Or.inl rfl | exact Or.inr (Or.inl rfl) | ((try simp only[aC,aE]) <;> omega))) k9 | refine KP.eI ?_ | refine KP.loc ?_ ?_ | exact Or.inl rfl | exact Or.inr (Or.inl rfl) | ((try simp only[aC,aE]) <;> omega)))
         have gr9:st9.aS.get (st.next+1)=.some (.cells 32 true [(.int .i64 0),(.str []),(.int .i64 0),(.bool false),(.int .i64 0),(.str []),AV.aB,AV.aB,AV.aB,AV.aB]):=by simp(disch:=(first | ((repeat(first | rw[aC] | rw[aE] | rw[List.length_cons] | rw[List.length_nil])) <;> omega) | (refine(?_:_∧True).1; constructor; simp only[aM, *]; exact True.intro))) only[dH,k9.2.1,gr8]
         have gid9:st9.aS.get id=.some (.cells 49 true [.ref p 0]):=by simp(disch:=(first | ((repeat(first | rw[aC] | rw[aE] | rw[List.length_cons] | rw[List.length_nil])) <;> omega) | (refine(?_:_∧True).1; constructor; simp only[aM, *]; exact True.intro))) only[dH,k9.2.1,gid8]
         repeat(refine T.step (by simp(disch:=(first | ((repeat(first | rw[aC] | rw[aE] | rw[List.length_cons] | rw[List.length_nil])) <;> omega) | (refine(?_:_∧True).1; constructor; simp only[aM, *]; exact True.intro))) only[bB,gr9]; try exact rfl) ?_)
         refine T.bind (Cq (ws:=ws) (p:=p) (id:=id) (z:=gJ z5) (by repeat' (first | exact h9 | refine PS.push ?_ _ | refine PS.put ?_ _ ?_ | ((try simp only[aC,aE]) <;> omega))) ?_ fun st10 h10 k10=>?_)
         ·simp(disch:=(first | ((repeat(first | rw[aC] | rw[aE] | rw[List.length_cons] | rw[List.length_nil])) <;> omega) | (refine(?_:_∧True).1; constructor; simp only[aM, *]; exact True.intro))) only[dH,gid9]
         have n_k10:=k10.le; (try simp only[aC,aE] at n_k10)
         have K10:KP p p st st10:=(by repeat' (first | exact KP.trans (by repeat' (first | exact K9 | exact KP.refl | refine KP.eI ?_ | refine KP.loc ?_ ?_ | exact Or.inl rfl | exact Or.inr (Or.inl rfl) | ((try simp only[aC,aE]) <;> omega))) k10 | refine KP.eI ?_ | refine KP.loc ?_ ?_ | exact Or.inl rfl | exact Or.inr (Or.inl rfl) | ((try simp only[aC,aE]) <;> omega)))
         repeat(refine T.step (by simp(disch:=(first | ((repeat(first | rw[aC] | rw[aE] | rw[List.length_cons] | rw[List.length_nil])) <;> omega) | (refine(?_:_∧True).1; constructor; simp only[aM, *]; exact True.intro))) only[bB,k10.2.1]; try exact rfl) ?_)
         exact T.some (hφ _ _ _ hx h10 K10)
       | false =>
         refine T.lG (by decide) ?_
         simp only at hb
         have h60:=h6
         obtain⟨x6,a6,t6,u6,hg6,hr6,hi6,hp6⟩:=h6
         repeat(refine T.step (by simp(disch:=(first | ((repeat(first | rw[aC] | rw[aE] | rw[List.length_cons] | rw[List.length_nil])) <;> omega) | (refine(?_:_∧True).1; constructor; simp only[aM, *]; exact True.intro))) only[bB,gw6]; try exact rfl) ?_)
         by_cases hk:(wd ws (cS z).i).1=1
         ·refine T.jC hk ?_
          repeat(refine T.step (by simp(disch:=(first | ((repeat(first | rw[aC] | rw[aE] | rw[List.length_cons] | rw[List.length_nil])) <;> omega) | (refine(?_:_∧True).1; constructor; simp only[aM, *]; exact True.intro))) only[bB,gib6,hg6]; try exact rfl) ?_)
          by_cases he:z4.e=0
          ·rw[if_pos ⟨hk,he⟩] at hb
           obtain⟨q,hq,hb⟩:=Option.bind_eq_some_iff.1 hb
           obtain⟨s,z5⟩:=q
           obtain⟨rfl,rfl⟩:=Prod.mk.inj (Option.some.inj hb)
           refine T.jC he ?_
           refine T.bind (Eo W h60 hq fun st7 h7 k7=>?_)
           have n_k7:=k7.le; (try simp only[aC,aE] at n_k7)
           have K7:KP p p st st7:=(by repeat' (first | exact KP.trans (by repeat' (first | exact K6 | exact KP.refl | refine KP.eI ?_ | refine KP.loc ?_ ?_ | exact Or.inl rfl | exact Or.inr (Or.inl rfl) | ((try simp only[aC,aE]) <;> omega))) k7 | refine KP.eI ?_ | refine KP.loc ?_ ?_ | exact Or.inl rfl | exact Or.inr (Or.inl rfl) | ((try simp only[aC,aE]) <;> omega)))
           have gib7:st7.aS.get st.next=.some (.cells 49 true [.ref p 0]):=by simp(disch:=(first | ((repeat(first | rw[aC] | rw[aE] | rw[List.length_cons] | rw[List.length_nil])) <;> omega) | (refine(?_:_∧True).1; constructor; simp only[aM, *]; exact True.intro))) only[dH,k7.2.1,gib6]
           have gr7:st7.aS.get (st.next+1)=.some (.cells 32 true [(.int .i64 0),(.str []),(.int .i64 0),(.bool false),(.int .i64 0),(.str []),AV.aB,AV.aB,AV.aB,AV.aB]):=by simp(disch:=(first | ((repeat(first | rw[aC] | rw[aE] | rw[List.length_cons] | rw[List.length_nil])) <;> omega) | (refine(?_:_∧True).1; constructor; simp only[aM, *]; exact True.intro))) only[dH,k7.2.1,gr6]
           have gid7:st7.aS.get id=.some (.cells 49 true [.ref p 0]):=by simp(disch:=(first | ((repeat(first | rw[aC] | rw[aE] | rw[List.length_cons] | rw[List.length_nil])) <;> omega) | (refine(?_:_∧True).1; constructor; simp only[aM, *]; exact True.intro))) only[dH,k7.2.1,gid6]
           have gw7:st7.aS.get st1.next=.some (.cells 26 true [.int .i64 (wd ws (cS z).i).1,.str (wd ws (cS z).i).2.1,.int .i64 (wd ws (cS z).i).2.2]):=by simp(disch:=(first | ((repeat(first | rw[aC] | rw[aE] | rw[List.length_cons] | rw[List.length_nil])) <;> omega) | (refine(?_:_∧True).1; constructor; simp only[aM, *]; exact True.intro))) only[dH,k7.2.1,gw6]
           repeat(refine T.step (by simp(disch:=(first | ((repeat(first | rw[aC] | rw[aE] | rw[List.length_cons] | rw[List.length_nil])) <;> omega) | (refine(?_:_∧True).1; constructor; simp only[aM, *]; exact True.intro))) only[bB,gib7]; try exact rfl) ?_)
           refine T.jC Jt ?_
           refine T.bind (o8 (ws:=ws) (z:=z5) h7 rfl rfl rfl rfl fun st8 h8 k8=>?_)
           have n_k8:=k8.le; (try simp only[aC,aE] at n_k8)
           have K8:KP p p st st8:=(by repeat' (first | exact KP.trans (by repeat' (first | exact K7 | exact KP.refl | refine KP.eI ?_ | refine KP.loc ?_ ?_ | exact Or.inl rfl | exact Or.inr (Or.inl rfl) | ((try simp only[aC,aE]) <;> omega))) k8 | refine KP.eI ?_ | refine KP.loc ?_ ?_ | exact Or.inl rfl | exact Or.inr (Or.inl rfl) | ((try simp only[aC,aE]) <;> omega)))
           have gib8:st8.aS.get st.next=.some (.cells 49 true [.ref p 0]):=by simp(disch:=(first | ((repeat(first | rw[aC] | rw[aE] | rw[List.length_cons] | rw[List.length_nil])) <;> omega) | (refine(?_:_∧True).1; constructor; simp only[aM, *]; exact True.intro))) only[dH,k8.2.1,gib7]
           have gr8:st8.aS.get (st.next+1)=.some (.cells 32 true [(.int .i64 0),(.str []),(.int .i64 0),(.bool false),(.int .i64 0),(.str []),AV.aB,AV.aB,AV.aB,AV.aB]):=by simp(disch:=(first | ((repeat(first | rw[aC] | rw[aE] | rw[List.length_cons] | rw[List.length_nil])) <;> omega) | (refine(?_:_∧True).1; constructor; simp only[aM, *]; exact True.intro))) only[dH,k8.2.1,gr7]
           have gid8:st8.aS.get id=.some (.cells 49 true [.ref p 0]):=by simp(disch:=(first | ((repeat(first | rw[aC] | rw[aE] | rw[List.length_cons] | rw[List.length_nil])) <;> omega) | (refine(?_:_∧True).1; constructor; simp only[aM, *]; exact True.intro))) only[dH,k8.2.1,gid7]
           have gw8:st8.aS.get st1.next=.some (.cells 26 true [.int .i64 (wd ws (cS z).i).1,.str (wd ws (cS z).i).2.1,.int .i64 (wd ws (cS z).i).2.2]):=by simp(disch:=(first | ((repeat(first | rw[aC] | rw[aE] | rw[List.length_cons] | rw[List.length_nil])) <;> omega) | (refine(?_:_∧True).1; constructor; simp only[aM, *]; exact True.intro))) only[dH,k8.2.1,gw7]
           repeat(refine T.step (by simp(disch:=(first | ((repeat(first | rw[aC] | rw[aE] | rw[List.length_cons] | rw[List.length_nil])) <;> omega) | (refine(?_:_∧True).1; constructor; simp only[aM, *]; exact True.intro))) only[bB,gr8]; try exact rfl) ?_)
           refine T.bind (Cq (ws:=ws) (p:=p) (id:=id) (z:=gJ z5) (by repeat' (first | exact h8 | refine PS.push ?_ _ | refine PS.put ?_ _ ?_ | ((try simp only[aC,aE]) <;> omega))) ?_ fun st9 h9 k9=>?_)
           ·simp(disch:=(first | ((repeat(first | rw[aC] | rw[aE] | rw[List.length_cons] | rw[List.length_nil])) <;> omega) | (refine(?_:_∧True).1; constructor; simp only[aM, *]; exact True.intro))) only[dH,gid8]
           have n_k9:=k9.le; (try simp only[aC,aE] at n_k9)
           have K9:KP p p st st9:=(by repeat' (first | exact KP.trans (by repeat' (first | exact K8 | exact KP.refl | refine KP.eI ?_ | refine KP.loc ?_ ?_ | exact Or.inl rfl | exact Or.inr (Or.inl rfl) | ((try simp only[aC,aE]) <;> omega))) k9 | refine KP.eI ?_ | refine KP.loc ?_ ?_ | exact Or.inl rfl | exact Or.inr (Or.inl rfl) | ((try simp only[aC,aE]) <;> omega)))
           repeat(refine T.step (by simp(disch:=(first | ((repeat(first | rw[aC] | rw[aE] | rw[List.length_cons] | rw[List.length_nil])) <;> omega) | (refine(?_:_∧True).1; constructor; simp only[aM, *]; exact True.intro))) only[bB,k9.2.1]; try exact rfl) ?_)
           exact T.some (hφ _ _ _ (RX.leaf 2 s V0) h9 K9)
          ·rw[if_neg (fun h=>he h.2)] at hb
           obtain⟨q,hq,hb⟩:=Option.bind_eq_some_iff.1 hb
           obtain⟨x,z5⟩:=q
           obtain⟨rfl,rfl⟩:=Prod.mk.inj (Option.some.inj hb)
           refine T.lG he ?_
           refine T.bind (Np W h60 hq fun st7 kv nv hx h7 k7=>?_)
           obtain⟨o1,o2⟩:=hx.one
           have n_k7:=k7.le; (try simp only[aC,aE] at n_k7)
           have K7:KP p p st st7:=(by repeat' (first | exact KP.trans (by repeat' (first | exact K6 | exact KP.refl | refine KP.eI ?_ | refine KP.loc ?_ ?_ | exact Or.inl rfl | exact Or.inr (Or.inl rfl) | ((try simp only[aC,aE]) <;> omega))) k7 | refine KP.eI ?_ | refine KP.loc ?_ ?_ | exact Or.inl rfl | exact Or.inr (Or.inl rfl) | ((try simp only[aC,aE]) <;> omega)))
           have gib7:st7.aS.get st.next=.some (.cells 49 true [.ref p 0]):=by simp(disch:=(first | ((repeat(first | rw[aC] | rw[aE] | rw[List.length_cons] | rw[List.length_nil])) <;> omega) | (refine(?_:_∧True).1; constructor; simp only[aM, *]; exact True.intro))) only[dH,k7.2.1,gib6]
           have gr7:st7.aS.get (st.next+1)=.some (.cells 32 true [(.int .i64 0),(.str []),(.int .i64 0),(.bool false),(.int .i64 0),(.str []),AV.aB,AV.aB,AV.aB,AV.aB]):=by simp(disch:=(first | ((repeat(first | rw[aC] | rw[aE] | rw[List.length_cons] | rw[List.length_nil])) <;> omega) | (refine(?_:_∧True).1; constructor; simp only[aM, *]; exact True.intro))) only[dH,k7.2.1,gr6]
           have gid7:st7.aS.get id=.some (.cells 49 true [.ref p 0]):=by simp(disch:=(first | ((repeat(first | rw[aC] | rw[aE] | rw[List.length_cons] | rw[List.length_nil])) <;> omega) | (refine(?_:_∧True).1; constructor; simp only[aM, *]; exact True.intro))) only[dH,k7.2.1,gid6]
           have gw7:st7.aS.get st1.next=.some (.cells 26 true [.int .i64 (wd ws (cS z).i).1,.str (wd ws (cS z).i).2.1,.int .i64 (wd ws (cS z).i).2.2]):=by simp(disch:=(first | ((repeat(first | rw[aC] | rw[aE] | rw[List.length_cons] | rw[List.length_nil])) <;> omega) | (refine(?_:_∧True).1; constructor; simp only[aM, *]; exact True.intro))) only[dH,k7.2.1,gw6]
           repeat(refine T.step (by simp(disch:=(first | ((repeat(first | rw[aC] | rw[aE] | rw[List.length_cons] | rw[List.length_nil])) <;> omega) | (refine(?_:_∧True).1; constructor; simp only[aM, *]; exact True.intro))) only[bB,gr7]; try exact rfl) ?_)
           refine T.bind (Cq (ws:=ws) (p:=p) (id:=id) (z:=z5) (by repeat' (first | exact h7 | refine PS.push ?_ _ | refine PS.put ?_ _ ?_ | ((try simp only[aC,aE]) <;> omega))) ?_ fun st8 h8 k8=>?_)
           ·simp(disch:=(first | ((repeat(first | rw[aC] | rw[aE] | rw[List.length_cons] | rw[List.length_nil])) <;> omega) | (refine(?_:_∧True).1; constructor; simp only[aM, *]; exact True.intro))) only[dH,gid7]
           have n_k8:=k8.le; (try simp only[aC,aE] at n_k8)
           have K8:KP p p st st8:=(by repeat' (first | exact KP.trans (by repeat' (first | exact K7 | exact KP.refl | refine KP.eI ?_ | refine KP.loc ?_ ?_ | exact Or.inl rfl | exact Or.inr (Or.inl rfl) | ((try simp only[aC,aE]) <;> omega))) k8 | refine KP.eI ?_ | refine KP.loc ?_ ?_ | exact Or.inl rfl | exact Or.inr (Or.inl rfl) | ((try simp only[aC,aE]) <;> omega)))
           repeat(refine T.step (by simp(disch:=(first | ((repeat(first | rw[aC] | rw[aE] | rw[List.length_cons] | rw[List.length_nil])) <;> omega) | (refine(?_:_∧True).1; constructor; simp only[aM, *]; exact True.intro))) only[bB,k8.2.1]; try exact rfl) ?_)
           exact T.some (hφ _ _ _ hx h8 K8)
         ·rw[if_neg (fun h=>hk h.1)] at hb
          obtain⟨q,hq,hb⟩:=Option.bind_eq_some_iff.1 hb
          obtain⟨x,z5⟩:=q
          obtain⟨rfl,rfl⟩:=Prod.mk.inj (Option.some.inj hb)
          refine T.lG hk ?_
          repeat(refine T.step (by simp(disch:=(first | ((repeat(first | rw[aC] | rw[aE] | rw[List.length_cons] | rw[List.length_nil])) <;> omega) | (refine(?_:_∧True).1; constructor; simp only[aM, *]; exact True.intro))) only[bB,gib6]; try exact rfl) ?_)
          refine T.bind (Np W h60 hq fun st7 kv nv hx h7 k7=>?_)
          obtain⟨o1,o2⟩:=hx.one
          have n_k7:=k7.le; (try simp only[aC,aE] at n_k7)
          have K7:KP p p st st7:=(by repeat' (first | exact KP.trans (by repeat' (first | exact K6 | exact KP.refl | refine KP.eI ?_ | refine KP.loc ?_ ?_ | exact Or.inl rfl | exact Or.inr (Or.inl rfl) | ((try simp only[aC,aE]) <;> omega))) k7 | refine KP.eI ?_ | refine KP.loc ?_ ?_ | exact Or.inl rfl | exact Or.inr (Or.inl rfl) | ((try simp only[aC,aE]) <;> omega)))
          have gib7:st7.aS.get st.next=.some (.cells 49 true [.ref p 0]):=by simp(disch:=(first | ((repeat(first | rw[aC] | rw[aE] | rw[List.length_cons] | rw[List.length_nil])) <;> omega) | (refine(?_:_∧True).1; constructor; simp only[aM, *]; exact True.intro))) only[dH,k7.2.1,gib6]
          have gr7:st7.aS.get (st.next+1)=.some (.cells 32 true [(.int .i64 0),(.str []),(.int .i64 0),(.bool false),(.int .i64 0),(.str []),AV.aB,AV.aB,AV.aB,AV.aB]):=by simp(disch:=(first | ((repeat(first | rw[aC] | rw[aE] | rw[List.length_cons] | rw[List.length_nil])) <;> omega) | (refine(?_:_∧True).1; constructor; simp only[aM, *]; exact True.intro))) only[dH,k7.2.1,gr6]
          have gid7:st7.aS.get id=.some (.cells 49 true [.ref p 0]):=by simp(disch:=(first | ((repeat(first | rw[aC] | rw[aE] | rw[List.length_cons] | rw[List.length_nil])) <;> omega) | (refine(?_:_∧True).1; constructor; simp only[aM, *]; exact True.intro))) only[dH,k7.2.1,gid6]
          have gw7:st7.aS.get st1.next=.some (.cells 26 true [.int .i64 (wd ws (cS z).i).1,.str (wd ws (cS z).i).2.1,.int .i64 (wd ws (cS z).i).2.2]):=by simp(disch:=(first | ((repeat(first | rw[aC] | rw[aE] | rw[List.length_cons] | rw[List.length_nil])) <;> omega) | (refine(?_:_∧True).1; constructor; simp only[aM, *]; exact True.intro))) only[dH,k7.2.1,gw6]
          repeat(refine T.step (by simp(disch:=(first | ((repeat(first | rw[aC] | rw[aE] | rw[List.length_cons] | rw[List.length_nil])) <;> omega) | (refine(?_:_∧True).1; constructor; simp only[aM, *]; exact True.intro))) only[bB,gr7]; try exact rfl) ?_)
          refine T.bind (Cq (ws:=ws) (p:=p) (id:=id) (z:=z5) (by repeat' (first | exact h7 | refine PS.push ?_ _ | refine PS.put ?_ _ ?_ | ((try simp only[aC,aE]) <;> omega))) ?_ fun st8 h8 k8=>?_)
          ·simp(disch:=(first | ((repeat(first | rw[aC] | rw[aE] | rw[List.length_cons] | rw[List.length_nil])) <;> omega) | (refine(?_:_∧True).1; constructor; simp only[aM, *]; exact True.intro))) only[dH,gid7]
          have n_k8:=k8.le; (try simp only[aC,aE] at n_k8)
          have K8:KP p p st st8:=(by repeat' (first | exact KP.trans (by repeat' (first | exact K7 | exact KP.refl | refine KP.eI ?_ | refine KP.loc ?_ ?_ | exact Or.inl rfl | exact Or.inr (Or.inl rfl) | ((try simp only[aC,aE]) <;> omega))) k8 | refine KP.eI ?_ | refine KP.loc ?_ ?_ | exact Or.inl rfl | exact Or.inr (Or.inl rfl) | ((try simp only[aC,aE]) <;> omega)))
          repeat(refine T.step (by simp(disch:=(first | ((repeat(first | rw[aC] | rw[aE] | rw[List.length_cons] | rw[List.length_nil])) <;> omega) | (refine(?_:_∧True).1; constructor; simp only[aM, *]; exact True.intro))) only[bB,k8.2.1]; try exact rfl) ?_)
          exact T.some (hφ _ _ _ hx h8 K8)
def pc (ws:List W)(Rn:Nat):Nat→Pr
 | 0=>⟨fun _ _=>none,fun _=>none,fun _=>none⟩
 | k+1=>⟨nF ws (pc ws Rn k) Rn,Hr ws (pc ws Rn k) Rn,AA ws (pc ws Rn k) Rn⟩
theorem CS {ws:List W}(W:Wf ws)(Rn:Nat):∀ k,Nc ws (Ii Rn k) (pc ws Rn k)
 | 0=>⟨(fun _ _ _ h _=>by cases h),(fun _ h _=>by cases h),(fun _ h _=>by cases h)⟩
 | k+1=>⟨fun h0 h6 hP hb hφ=>xN W (CS W Rn k) h0 h6 hP (by rw[AO]; exact hb) hφ,fun hP hb hφ=>PQ W (CS W Rn k) hP (by rw[AO]; exact hb) hφ,fun hP hb hφ=>Nd W (CS W Rn k) hP (by rw[AO]; exact hb) hφ⟩
def D0 (ws:List W)(Rn:Nat)(z:Z):Option (Ex×Z):=nF ws (pc ws Rn 4000) Rn 0 z
theorem Gj {ws:List W}(W:Wf ws){R:Nat}{st:St}{p:Nat}{z z':Z}{e:Ex}{φ:Int×List UInt8×Int×Bool×Int×List UInt8×AV×AV×AV×AV×St→Prop}
 (hP:PS ws st p z) (hb:D0 ws R z=.some (e,z')) (hφ:EP ws st p p e z' φ):T φ (fJ R (.ref p 0) 0 st):=
 xN W (CS W R 4000) (by decide) (by decide) hP (by rw[AO]; exact hb) hφ
end
end Go.Proofs.YthodfojhbbendaaDoor
end
section
set_option linter.all false
set_option maxRecDepth 100000
set_option maxHeartbeats 4000000
namespace Go.Proofs.YthodfojhbbendaaDoor
open Go Go.Ev
noncomputable section
attribute [local congr] rL zU
structure Sm where
 k:Int
 t:List UInt8
 f:List UInt8
 v:Ex
 names:List (List UInt8)
 exprs:List Ex
 w:Ex
 nG:List (List UInt8)
 c:Bool
 h:Bool
 o:List UInt8
 d:Bool
 l:Int
def E0:Ex:=.mk 0 [] V0 [] []
theorem RX.e0:RX E0 .aB .aB:=RX.leaf 0 [] V0
structure RS (m:Sm)(vk vn nv ev wk wn cv:AV):Prop where
 v:RX m.v vk vn
 names:Row 1 nv (m.names.map .str)
 exprs:∃ kcs,Row 10 ev kcs∧BV m.exprs kcs
 w:RX m.w wk wn
 nG:Row 1 cv (m.nG.map .str)
theorem Row.nil {sz:Nat}:Row sz .aB []:=.inl ⟨rfl,rfl⟩
theorem BV.Kg:∃ kcs,Row 10 .aB kcs∧BV [] kcs:=⟨[],Row.nil,BV.nil⟩
def SP (ws : List W) (st : St) (p : Nat) (m : Sm) (z : Z) (φ : Int × List UInt8 × List UInt8 × Int × List UInt8 × Int × Bool × Int × List UInt8 × AV × AV × AV × AV × AV × AV × Int × List UInt8 × Int × Bool × Int × List UInt8 × AV × AV × AV × AV × AV × Bool × Bool × List UInt8 × Bool × Int × St → Prop) : Prop :=
 ∀ st1 vk vn nv ev wk wn cv, RS m vk vn nv ev wk wn cv → PS ws st1 p z → KP p p st st1 →
  φ (m.k,m.t,m.f,m.v.k,m.v.s,m.v.v.k,m.v.v.b,m.v.v.n,m.v.v.s,.aB,.aB,vk,vn,nv,ev,m.w.k,m.w.s,m.w.v.k,m.w.v.b,m.w.v.n,m.w.v.s,.aB,.aB,wk,wn,cv,m.c,m.h,m.o,m.d,m.l,st1)
theorem KP.inner {p d:Nat}{a b c:St}(h:KP p p a b)(k:KP p d b c)(hd:a.next≤d):KP p p a c:=
 ⟨Nat.le_trans h.1 k.1,fun i h1 h2 h3=>(k.2.1 i (Nat.lt_of_lt_of_le h1 h.1) h2 (by omega)).trans (h.2.1 i h1 h2 h2),k.2.2.trans h.2.2⟩
def wZ (ws:List W)(Rn:Nat)(z:Z):Option (Ex×Z):=match gQ ws z [87,72,69,82,69] with
 | (true,z1)=>D0 ws Rn z1
 | (false,z1)=>.some (E0,z1)
theorem Fx {ws:List W}(W:Wf ws){R:Nat}{st:St}{p:Nat}{z z':Z}{e:Ex}{φ:Int×List UInt8×Int×Bool×Int×List UInt8×AV×AV×AV×AV×St→Prop}
 (hP:PS ws st p z) (hb:wZ ws R z=.some (e,z')) (hφ:EP ws st p p e z' φ):T φ (gP R (.ref p 0) st):=by
 have hp:=hP.lt
 unfold gP
 unfold wZ at hb
 rcases e1:gQ ws z [87,72,69,82,69] with⟨b1,z1⟩
 rw[e1] at hb
 refine T.bind (qI W (by repeat' (first | exact hP | refine PS.push ?_ _ | refine PS.put ?_ _ ?_ | ((try simp only[aC,aE]) <;> omega))) e1 fun st1 h1 k1=>?_)
 have n_k1:=k1.le; (try simp only[aC,aE] at n_k1)
 have K1:KP p p st st1:=(by repeat' (first | exact KP.trans (by repeat' (first | exact KP.refl | exact KP.refl | refine KP.eI ?_ | refine KP.loc ?_ ?_ | exact Or.inl rfl | exact Or.inr (Or.inl rfl) | ((try simp only[aC,aE]) <;> omega))) k1 | refine KP.eI ?_ | refine KP.loc ?_ ?_ | exact Or.inl rfl | exact Or.inr (Or.inl rfl) | ((try simp only[aC,aE]) <;> omega)))
 cases b1 with
 | true =>
   refine T.jC rfl ?_
   refine T.bind (Gj W h1 hb fun st2 kv nv hx h2 k2=>?_)
   have n_k2:=k2.le; (try simp only[aC,aE] at n_k2)
   have K2:=K1.trans k2
   obtain⟨o1,o2⟩:=hx.one
   repeat(refine T.step (by simp(disch:=(first | ((repeat(first | rw[aC] | rw[aE] | rw[List.length_cons] | rw[List.length_nil])) <;> omega) | (refine(?_:_∧True).1; constructor; simp only[aM, *]; exact True.intro))) only[bB,k2.2.1,k1.2.1]; try exact rfl) ?_)
   exact T.some (hφ _ _ _ hx (by repeat' (first | exact h2 | refine PS.push ?_ _ | refine PS.put ?_ _ ?_ | ((try simp only[aC,aE]) <;> omega))) (by repeat' (first | exact K2 | exact KP.refl | refine KP.eI ?_ | refine KP.loc ?_ ?_ | exact Or.inl rfl | exact Or.inr (Or.inl rfl) | ((try simp only[aC,aE]) <;> omega))))
 | false =>
   obtain⟨rfl,rfl⟩:=Prod.mk.inj (Option.some.inj hb)
   refine T.lG (by decide) ?_
   repeat(refine T.step (by simp(disch:=(first | ((repeat(first | rw[aC] | rw[aE] | rw[List.length_cons] | rw[List.length_nil])) <;> omega) | (refine(?_:_∧True).1; constructor; simp only[aM, *]; exact True.intro))) only[bB,k1.2.1]; try exact rfl) ?_)
   exact T.some (hφ _ _ _ RX.e0 (by repeat' (first | exact h1 | refine PS.push ?_ _ | refine PS.put ?_ _ ?_ | ((try simp only[aC,aE]) <;> omega))) (by repeat' (first | exact K1 | exact KP.refl | refine KP.eI ?_ | refine KP.loc ?_ ?_ | exact Or.inl rfl | exact Or.inr (Or.inl rfl) | ((try simp only[aC,aE]) <;> omega))))
structure Old (st:St):Prop where
 Ps:∃ a,st.old 1 0=.some a∧zO a=true
 Pg:∃ a,st.old 2 0=.some a∧zO a=true
 Pq:Ah st 0=true
theorem JT {g:Nat}{st st1:St}(h:st1.old=st.old):Ah st1 g=Ah st g:=by
 unfold Ah; rw[h]
theorem Old.BP {p q:Nat}{st st1:St}(h:Old st)(k:KP p q st st1):Old st1:=
 ⟨by rw[k.2.2]; exact h.Ps,by rw[k.2.2]; exact h.Pg,by rw[JT k.2.2]; exact h.Pq⟩
theorem Old.eq {st st1:St}(h:Old st)(k:st1.old=st.old):Old st1:=
 ⟨by rw[k]; exact h.Ps,by rw[k]; exact h.Pg,by rw[JT k]; exact h.Pq⟩
def Nl:Go.Lib.NumEnd Int→Option Int
 | .ok v=>.some v
 | _=>none
def B6 (ws:List W)(z:Z):Int×Z:=match Nl (Go.Lib.atoiAll (wd ws z.i).2.1) with
 | .some v=>if z.e=0∧(wd ws z.i).1=3 then(v,wK z) else(-1,lP z 120)
 | none=>(-1,lP z 120)
theorem P2 {R:Nat}{s:List UInt8}{st:St}(hl:s.length≤2000){v:Int}(h:Nl (Go.Lib.atoiAll s)=.some v):Ny R s st=.some (v,.tV,st):=by
 unfold Ny I6
 rw[iE (Nat.ble_eq_true_of_le (show s.length≤iT by unfold iT; omega))]
 unfold Nl at h
 split at h
 ·rename_i w e
  rw[e]
  simp only[Option.map_some]
  rw[Option.some.inj h]
 ·cases h
theorem Oz {R:Nat}{s:List UInt8}{st:St}(ho:Old st)(hl:s.length≤2000)(h:Nl (Go.Lib.atoiAll s)=none):∃ n,Ny R s st=.some (n,.iface 108 .any,st):=by
 obtain⟨a,h1,h2⟩:=ho.Ps
 obtain⟨b,h3,h4⟩:=ho.Pg
 unfold Ny I6
 rw[iE (Nat.ble_eq_true_of_le (show s.length≤iT by unfold iT; omega))]
 unfold Nl at h
 cases e:Go.Lib.atoiAll s with
 | ok v=>rw[e] at h; cases h
 | range=>exact⟨Go.Lib.atoiSat s,by simp only[h3,Option.bind_some,h4,cond_true,Option.map_some]⟩
 | _=>exact⟨0,by simp only[h1,Option.bind_some,h2,cond_true,Option.map_some]⟩
theorem Mp:(yS C0.P .neq 82 (.tmp 0) (.const .nilIface) .tV AV.tV).bind rO=.some false:=by kernel_rfl
theorem Mk:(yS C0.P .neq 82 (.tmp 0) (.const .nilIface) (.iface 108 .any) AV.tV).bind rO=.some true:=by kernel_rfl
theorem N2 {ws : List W} (W : Wf ws) {R : Nat} {st : St} {p : Nat} {z z' : Z} {v : Int} {φ : Int × St → Prop}
 (hP:PS ws st p z) (hO:Old st) (hb:B6 ws z=(v,z')) (hφ:∀ st1,PS ws st1 p z'→KP p p st st1→φ (v,st1)):T φ (kD R (.ref p 0) st):=by
 have hP0:=hP
 obtain⟨x,a,t,u,hg,hr,hi,hp⟩:=hP
 unfold kD
 unfold B6 at hb
 repeat(refine T.step (by simp(disch:=(first | ((repeat(first | rw[aC] | rw[aE] | rw[List.length_cons] | rw[List.length_nil])) <;> omega) | (refine(?_:_∧True).1; constructor; simp only[aM, *]; exact True.intro))) only[bB,hg,FQ hr hi,Oo]; try exact rfl) ?_)
 have h1:PS ws ((st.push (.cells 26 true [.int .i64 0,.str [],.int .i64 0])).put st.next (.cells 26 true [.int .i64 (wd ws z.i).1,.str (wd ws z.i).2.1,.int .i64 (wd ws z.i).2.2])) p z:=(by repeat' (first | exact hP0 | refine PS.push ?_ _ | refine PS.put ?_ _ ?_ | ((try simp only[aC,aE]) <;> omega)))
 have K1:KP p p st ((st.push (.cells 26 true [.int .i64 0,.str [],.int .i64 0])).put st.next (.cells 26 true [.int .i64 (wd ws z.i).1,.str (wd ws z.i).2.1,.int .i64 (wd ws z.i).2.2])):=(by repeat' (first | exact KP.refl | exact KP.refl | refine KP.eI ?_ | refine KP.loc ?_ ?_ | exact Or.inl rfl | exact Or.inr (Or.inl rfl) | ((try simp only[aC,aE]) <;> omega)))
 cases e:Nl (Go.Lib.atoiAll (wd ws z.i).2.1) with
 | some n =>
   rw[e] at hb
   refine T.step (P2 (W.short _) e) ?_
   repeat(refine T.step (by simp(disch:=(first | ((repeat(first | rw[aC] | rw[aE] | rw[List.length_cons] | rw[List.length_nil])) <;> omega) | (refine(?_:_∧True).1; constructor; simp only[aM, *]; exact True.intro))) only[bB,hg]; try exact rfl) ?_)
   by_cases he:z.e=0
   ·refine T.jC he ?_
    repeat(refine T.step (by simp(disch:=(first | ((repeat(first | rw[aC] | rw[aE] | rw[List.length_cons] | rw[List.length_nil])) <;> omega) | (refine(?_:_∧True).1; constructor; simp only[aM, *]; exact True.intro))) only[bB]; try exact rfl) ?_)
    by_cases hk:(wd ws z.i).1=3
    ·simp only[he,hk,and_self,if_true] at hb
     obtain⟨rfl,rfl⟩:=Prod.mk.inj hb
     refine T.jC hk ?_
     refine T.step Mp ?_
     refine T.lG (by decide) ?_
     repeat(refine T.step (by simp(disch:=(first | ((repeat(first | rw[aC] | rw[aE] | rw[List.length_cons] | rw[List.length_nil])) <;> omega) | (refine(?_:_∧True).1; constructor; simp only[aM, *]; exact True.intro))) only[bB,hg,Ct W hi]; try exact rfl) ?_)
     exact T.some (hφ _ (PS.of (zY rfl) hr (W.more _ hi (by rw[hk]; decide)) (by((try simp only[aC,aE]) <;> omega))) (by repeat' (first | exact KP.refl | exact KP.refl | refine KP.eI ?_ | refine KP.loc ?_ ?_ | exact Or.inl rfl | exact Or.inr (Or.inl rfl) | ((try simp only[aC,aE]) <;> omega))))
    ·simp only[hk,and_false,if_false] at hb
     obtain⟨rfl,rfl⟩:=Prod.mk.inj hb
     refine T.lG hk ?_
     exact T.bind (oF h1 fun st2 h2 k2 _=>T.some (hφ _ h2 (K1.trans k2)))
   ·simp only[he,false_and,if_false] at hb
    obtain⟨rfl,rfl⟩:=Prod.mk.inj hb
    refine T.lG he ?_
    exact T.bind (oF h1 fun st2 h2 k2 _=>T.some (hφ _ h2 (K1.trans k2)))
 | none =>
   rw[e] at hb
   obtain⟨rfl,rfl⟩:=Prod.mk.inj hb
   obtain⟨n,hn⟩:=Oz (R:=R) (hO.BP K1) (W.short _) e
   refine T.step hn ?_
   repeat(refine T.step (by simp(disch:=(first | ((repeat(first | rw[aC] | rw[aE] | rw[List.length_cons] | rw[List.length_nil])) <;> omega) | (refine(?_:_∧True).1; constructor; simp only[aM, *]; exact True.intro))) only[bB,hg]; try exact rfl) ?_)
   by_cases he:z.e=0
   ·refine T.jC he ?_
    repeat(refine T.step (by simp(disch:=(first | ((repeat(first | rw[aC] | rw[aE] | rw[List.length_cons] | rw[List.length_nil])) <;> omega) | (refine(?_:_∧True).1; constructor; simp only[aM, *]; exact True.intro))) only[bB]; try exact rfl) ?_)
    by_cases hk:(wd ws z.i).1=3
    ·refine T.jC hk ?_
     refine T.step Mk ?_
     refine T.jC rfl ?_
     exact T.bind (oF h1 fun st2 h2 k2 _=>T.some (hφ _ h2 (K1.trans k2)))
    ·refine T.lG hk ?_
     exact T.bind (oF h1 fun st2 h2 k2 _=>T.some (hφ _ h2 (K1.trans k2)))
   ·refine T.lG he ?_
    exact T.bind (oF h1 fun st2 h2 k2 _=>T.some (hφ _ h2 (K1.trans k2)))
end
end Go.Proofs.YthodfojhbbendaaDoor
end
section
set_option linter.all false
set_option maxRecDepth 100000
set_option maxHeartbeats 1000000
namespace Go.Proofs.YthodfojhbbendaaDoor
open Go Go.Ev
noncomputable section
attribute [local congr] rL zU
theorem CL:∀{l:List AV},(∀ x ∈ l,AV.beq x x=true)→AV.vG l l=true
 | [],_=>rfl
 | a :: l, h => by
   show(AV.beq a a && AV.vG l l)=true
   rw[h a List.mem_cons_self,CL fun x hx=>h x (List.mem_cons_of_mem _ hx)]; rfl
theorem HV:∀{l:List AV},AV.vG l l=true→ ∀ x ∈ l,AV.beq x x=true
 | a :: l, h, x, hx => by
   have h:(AV.beq a a && AV.vG l l)=true:=h
   obtain⟨h1,h2⟩:=Bool.and_eq_true_iff.1 h
   rcases List.mem_cons.1 hx with rfl | hx
   ·exact h1
   ·exact HV h2 x hx
theorem HK {sz:Nat}{x:AV}{cs:List AV}(h:Row sz x cs)(k:AV.vG cs cs=true):AV.beq x x=true:=by
 rcases h with⟨rfl,_⟩ | ⟨id,e,len,cap,rfl,_⟩
 ·rfl
 ·simp only[AV.beq,Nat.beq_refl,k,beq_self_eq_true,Bool.and_self]
theorem chunks {kcs:List AV}{n:Nat}(hl:kcs.length=n * 10)(h:∀ j,j<n→AV.vG ((kcs.drop (j * 10)).take 10) ((kcs.drop (j * 10)).take 10)=true):AV.vG kcs kcs=true:=by
 refine CL fun x hx=>?_
 obtain⟨i,hi,rfl⟩:=List.mem_iff_getElem.1 hx
 refine HV (h (i / 10) (by omega)) _ ?_
 refine List.mem_iff_getElem.2 ⟨i % 10,by rw[List.length_take,List.length_drop]; omega,?_⟩
 rw[List.getElem_take,List.getElem_drop]
 congr 1
 omega
theorem RE.vG {e:Ex}{c:List AV}(h:RE e c):AV.vG c c=true:=by
 induction h with
 | mk h1 h2 h3 h4 ih =>
   refine CL fun x hx=>?_
   have hk:=HK h1 (chunks h3 ih)
   have hn:=qZ h2
   simp only[List.mem_cons,List.not_mem_nil,or_false] at hx
   rcases hx with rfl | rfl | rfl | rfl | rfl | rfl | rfl | rfl | rfl | rfl
   ·exact wR _ _
   ·exact tR _
   ·exact wR _ _
   ·exact Hf _
   ·exact wR _ _
   ·exact tR _
   ·rfl
   ·rfl
   ·exact hk
   ·exact hn
theorem AT {x:AV}{kcs:List AV}{l:List Ex}(h:Row 10 x kcs)(k:BV l kcs):AV.beq x x=true:=HK h (chunks k.1 fun j hj=>(k.2 j hj).vG)
def Q3:Sm:=⟨0,[],[],E0,[],[],E0,[],false,false,[],false,0⟩
def uF (ws:List W)(z:Z):Sm×Z:=match gQ ws z [84,65,66,76,69] with
 | (true,z1)=>(⟨1,(cJ ws z1).1,[],E0,[],[],E0,[],false,false,[],false,-1⟩,(cJ ws z1).2)
 | (false,z1)=>(⟨2,(cJ ws (dE ws (dE ws z1 2 [73,78,68,69,88]) 2 [79,78])).1,(cJ ws (dE ws (cJ ws (dE ws (dE ws z1 2 [73,78,68,69,88]) 2 [79,78])).2 6 [40])).1,E0,[],[],E0,[],false,false,[],false,-1⟩,
  dE ws (cJ ws (dE ws (cJ ws (dE ws (dE ws z1 2 [73,78,68,69,88]) 2 [79,78])).2 6 [40])).2 6 [41])
theorem Lb {ws:List W}(W:Wf ws){R:Nat}{st:St}{p:Nat}{z z':Z}{m:Sm}{φ:Int×List UInt8×List UInt8×Int×List UInt8×Int×Bool×Int×List UInt8×AV×AV×AV×AV×AV×AV×Int×List UInt8×Int×Bool×Int×List UInt8×AV×AV×AV×AV×AV×Bool×Bool×List UInt8×Bool×Int×St→Prop}
 (hP:PS ws st p z) (hb:uF ws z=(m,z')) (hφ:SP ws st p m z' φ):T φ (jN R (.ref p 0) st):=by
 have hp:=hP.lt
 unfold jN
 unfold uF at hb
 rcases e1:gQ ws z [84,65,66,76,69] with⟨b1,z1⟩
 rw[e1] at hb
 refine T.bind (qI W (by repeat' (first | exact hP | refine PS.push ?_ _ | refine PS.put ?_ _ ?_ | ((try simp only[aC,aE]) <;> omega))) e1 fun st1 h1 k1=>?_)
 have n_k1:=k1.le; (try simp only[aC,aE] at n_k1)
 have K1:KP p p st st1:=(by repeat' (first | exact KP.trans (by repeat' (first | exact KP.refl | exact KP.refl | refine KP.eI ?_ | refine KP.loc ?_ ?_ | exact Or.inl rfl | exact Or.inr (Or.inl rfl) | ((try simp only[aC,aE]) <;> omega))) k1 | refine KP.eI ?_ | refine KP.loc ?_ ?_ | exact Or.inl rfl | exact Or.inr (Or.inl rfl) | ((try simp only[aC,aE]) <;> omega)))
 cases b1 with
 | true =>
   obtain⟨rfl,rfl⟩:=Prod.mk.inj hb
   refine T.jC rfl ?_
   refine T.bind (oT W h1 fun st2 h2 k2=>?_)
   have n_k2:=k2.le; (try simp only[aC,aE] at n_k2)
   repeat(refine T.step (by simp(disch:=(first | ((repeat(first | rw[aC] | rw[aE] | rw[List.length_cons] | rw[List.length_nil])) <;> omega) | (refine(?_:_∧True).1; constructor; simp only[aM, *]; exact True.intro))) only[bB,k2.2.1,k1.2.1]; try exact rfl) ?_)
   exact T.some (hφ _ _ _ _ _ _ _ _ ⟨RX.e0,Row.nil,BV.Kg,RX.e0,Row.nil⟩ (by repeat' (first | exact h2 | refine PS.push ?_ _ | refine PS.put ?_ _ ?_ | ((try simp only[aC,aE]) <;> omega))) (by repeat' (first | exact K1.trans k2 | exact KP.refl | refine KP.eI ?_ | refine KP.loc ?_ ?_ | exact Or.inl rfl | exact Or.inr (Or.inl rfl) | ((try simp only[aC,aE]) <;> omega))))
 | false =>
   obtain⟨rfl,rfl⟩:=Prod.mk.inj hb
   refine T.lG (by decide) ?_
   refine T.bind (qD W h1 fun st2 h2 k2=>?_)
   refine T.bind (qD W h2 fun st3 h3 k3=>?_)
   refine T.bind (oT W h3 fun st4 h4 k4=>?_)
   have n_k2:=k2.le; (try simp only[aC,aE] at n_k2); have n_k3:=k3.le; (try simp only[aC,aE] at n_k3); have n_k4:=k4.le; (try simp only[aC,aE] at n_k4)
   have K4:=((K1.trans k2).trans k3).trans k4
   repeat(refine T.step (by simp(disch:=(first | ((repeat(first | rw[aC] | rw[aE] | rw[List.length_cons] | rw[List.length_nil])) <;> omega) | (refine(?_:_∧True).1; constructor; simp only[aM, *]; exact True.intro))) only[bB]; try exact rfl) ?_)
   refine T.bind (uJ (ws:=ws) (z:=(cJ ws (dE ws (dE ws z1 2 [73,78,68,69,88]) 2 [79,78])).2) W (by repeat' (first | exact h4 | refine PS.push ?_ _ | refine PS.put ?_ _ ?_ | ((try simp only[aC,aE]) <;> omega))) fun st5 h5 k5=>?_)
   refine T.bind (oT W h5 fun st6 h6 k6=>?_)
   have n_k5:=k5.le; (try simp only[aC,aE] at n_k5); have n_k6:=k6.le; (try simp only[aC,aE] at n_k6)
   have K6:KP p p st st6:=(by repeat' (first | exact KP.trans (by repeat' (first | exact K4 | exact KP.refl | refine KP.eI ?_ | refine KP.loc ?_ ?_ | exact Or.inl rfl | exact Or.inr (Or.inl rfl) | ((try simp only[aC,aE]) <;> omega))) (k5.trans k6) | refine KP.eI ?_ | refine KP.loc ?_ ?_ | exact Or.inl rfl | exact Or.inr (Or.inl rfl) | ((try simp only[aC,aE]) <;> omega)))
   repeat(refine T.step (by simp(disch:=(first | ((repeat(first | rw[aC] | rw[aE] | rw[List.length_cons] | rw[List.length_nil])) <;> omega) | (refine(?_:_∧True).1; constructor; simp only[aM, *]; exact True.intro))) only[bB,k6.2.1,k5.2.1]; try exact rfl) ?_)
   refine T.bind (uJ (ws:=ws) (z:=(cJ ws (dE ws (cJ ws (dE ws (dE ws z1 2 [73,78,68,69,88]) 2 [79,78])).2 6 [40])).2) W (by repeat' (first | exact h6 | refine PS.push ?_ _ | refine PS.put ?_ _ ?_ | ((try simp only[aC,aE]) <;> omega))) fun st7 h7 k7=>?_)
   have n_k7:=k7.le; (try simp only[aC,aE] at n_k7)
   have K7:KP p p st st7:=(by repeat' (first | exact KP.trans (by repeat' (first | exact K6 | exact KP.refl | refine KP.eI ?_ | refine KP.loc ?_ ?_ | exact Or.inl rfl | exact Or.inr (Or.inl rfl) | ((try simp only[aC,aE]) <;> omega))) k7 | refine KP.eI ?_ | refine KP.loc ?_ ?_ | exact Or.inl rfl | exact Or.inr (Or.inl rfl) | ((try simp only[aC,aE]) <;> omega)))
   repeat(refine T.step (by simp(disch:=(first | ((repeat(first | rw[aC] | rw[aE] | rw[List.length_cons] | rw[List.length_nil])) <;> omega) | (refine(?_:_∧True).1; constructor; simp only[aM, *]; exact True.intro))) only[bB,k7.2.1,k6.2.1,k5.2.1,k4.2.1,k3.2.1,k2.2.1,k1.2.1]; try exact rfl) ?_)
   exact T.some (hφ _ _ _ _ _ _ _ _ ⟨RX.e0,Row.nil,BV.Kg,RX.e0,Row.nil⟩ (by repeat' (first | exact h7 | refine PS.push ?_ _ | refine PS.put ?_ _ ?_ | ((try simp only[aC,aE]) <;> omega))) (by repeat' (first | exact K7 | exact KP.refl | refine KP.eI ?_ | refine KP.loc ?_ ?_ | exact Or.inl rfl | exact Or.inr (Or.inl rfl) | ((try simp only[aC,aE]) <;> omega))))
def zP (z:Z)(n:Nat):Z:=if 32≤n then lP z 3 else z
def Bo (ws : List W) (Rn : Nat) : Nat → List (List UInt8) → List Ex → Z → Option (List (List UInt8) × List Ex × Z)
 | 0,_,_,_=>none
 | r + 1, names, exprs, z => if z.e = 0 then
  (D0 ws Rn (dE ws (cJ ws (zP z names.length)).2 6 [61])).bind fun q=>if names.length≤iT∧exprs.length * 10≤iT then(match iC ws q.2 [44] with
        | (true,z5)=>Bo ws Rn r (names ++ [(cJ ws (zP z names.length)).1]) (exprs ++ [q.1]) z5
        | (false,z5)=>.some (names ++ [(cJ ws (zP z names.length)).1],exprs ++ [q.1],z5)) else none
   else .some (names,exprs,z)
theorem J9 {ws : List W} (W : Wf ws) {R : Nat} {p d d1 : Nat} {t : List UInt8} {st0 : St} {φ : St → Prop} {names' : List (List UInt8)} {exprs' : List Ex} {z' : Z}
 (hp:p<st0.next) (hd0:d<st0.next) (hdp:d≠p)
 (hφ:∀ st1 nv ev kcs,st1.aS.get d=.some (.cells 34 true [.int .i64 4,.str t,.str [],(.int .i64 0),(.str []),(.int .i64 0),(.bool false),(.int .i64 0),(.str []),AV.aB,AV.aB,AV.aB,AV.aB,nv,ev,(.int .i64 0),(.str []),(.int .i64 0),(.bool false),(.int .i64 0),(.str []),AV.aB,AV.aB,AV.aB,AV.aB,.aB,.bool false,.bool false,.str [],.bool false,.int .i64 (-1)])→Sl st1 1 nv (names'.map .str)→Sl st1 10 ev kcs→BV exprs' kcs→PS ws st1 p z'→KP p d st0 st1→φ st1):
 ∀ (r : Nat) {st : St} {nv ev : AV} {kcs : List AV} {names : List (List UInt8)} {exprs : List Ex} {z : Z}, PS ws st p z → KP p d st0 st → st.aS.get d = .some (.cells 34 true [.int .i64 4, .str t, .str [], (.int .i64 0), (.str []), (.int .i64 0), (.bool false), (.int .i64 0), (.str []), AV.aB, AV.aB, AV.aB, AV.aB, nv, ev, (.int .i64 0), (.str []), (.int .i64 0), (.bool false), (.int .i64 0), (.str []), AV.aB, AV.aB, AV.aB, AV.aB, .aB, .bool false, .bool false, .str [], .bool false, .int .i64 (-1)]) → Sl st 1 nv (names.map .str) → Sl st 10 ev kcs → BV exprs kcs →
  (∀ id,dO nv id→st0.next≤id)→(∀ id,dO ev id→st0.next≤id)→(∀ id,dO nv id→ ¬ dO ev id)→Bo ws R r names exprs z=.some (names',exprs',z') →
  T φ (dS R (.ref p 0) d1 d r st)
 | 0,_,_,_,_,_,_,_,_,_,_,_,_,_,_,_,_,hb=>by cases hb
 | r + 1, st, nv, ev, kcs, names, exprs, z, hP, hK, hg, hN, hEv, hE, hfn, hfe, hd, hb => by
   have hP0:=hP
   have on:=Sl.one hN
   have oe:=Sl.one hEv
   obtain⟨xx,a,tt,uu,hgp,hrow,hi,hpp⟩:=hP
   have hK1:=hK.1
   unfold dS
   unfold Bo at hb
   repeat(refine T.step (by simp(disch:=(first | ((repeat(first | rw[aC] | rw[aE] | rw[List.length_cons] | rw[List.length_nil])) <;> omega) | (refine(?_:_∧True).1; constructor; simp only[aM, *]; exact True.intro))) only[bB,hgp]; try exact rfl) ?_)
   by_cases he:z.e=0
   ·rw[if_pos he] at hb
    refine T.jC he ?_
    have hlen:lenOf nv=.some names.length:=by
     rw[Bl hN (by decide),List.length_map,Nat.div_one]
    repeat(refine T.step (by simp(disch:=(first | ((repeat(first | rw[aC] | rw[aE] | rw[List.length_cons] | rw[List.length_nil])) <;> omega) | (refine(?_:_∧True).1; constructor; simp only[aM, *]; exact True.intro))) only[bB,hg]; try exact rfl) ?_)
    refine T.step hlen ?_
    by_cases hn:32≤names.length
    ·refine T.jC (by omega) ?_
     have hz:zP z names.length=lP z 3:=if_pos hn
     rw[hz] at hb
     unfold fS
     refine T.bind (T.bind (oF hP0 fun st1 h1 k1 hn1=>T.some ?_))
     have K1:=hK.trans k1.wide
     have S1:=(Sl.kp hN k1 (fun id hi=>⟨fun e=>absurd (hfn id hi) (by omega),fun e=>absurd (hfn id hi) (by omega)⟩))
     have E1:=(Sl.kp hEv k1 (fun id hi=>⟨fun e=>absurd (hfe id hi) (by omega),fun e=>absurd (hfe id hi) (by omega)⟩))
     have g1:st1.aS.get d=.some (.cells 34 true [.int .i64 4,.str t,.str [],(.int .i64 0),(.str []),(.int .i64 0),(.bool false),(.int .i64 0),(.str []),AV.aB,AV.aB,AV.aB,AV.aB,nv,ev,(.int .i64 0),(.str []),(.int .i64 0),(.bool false),(.int .i64 0),(.str []),AV.aB,AV.aB,AV.aB,AV.aB,.aB,.bool false,.bool false,.str [],.bool false,.int .i64 (-1)]):=by rw[k1.get (by omega) hdp hdp,hg]
     repeat(refine T.step (by simp(disch:=(first | ((repeat(first | rw[aC] | rw[aE] | rw[List.length_cons] | rw[List.length_nil])) <;> omega) | (refine(?_:_∧True).1; constructor; simp only[aM, *]; exact True.intro))) only[bB,g1]; try exact rfl) ?_)
     refine T.bind (oT (z:=(lP z 3)) W h1 fun st2 h2 k2=>?_)
     have K2:=K1.trans k2.wide
     have n_k2:=k2.le; (try simp only[aC,aE] at n_k2); have n_K2:=K2.le; (try simp only[aC,aE] at n_K2)
     have S2:=(Sl.kp S1 k2 (fun id hi=>⟨fun e=>absurd (hfn id hi) (by omega),fun e=>absurd (hfn id hi) (by omega)⟩))
     have E2:=(Sl.kp E1 k2 (fun id hi=>⟨fun e=>absurd (hfe id hi) (by omega),fun e=>absurd (hfe id hi) (by omega)⟩))
     have g2:st2.aS.get d=.some (.cells 34 true [.int .i64 4,.str t,.str [],(.int .i64 0),(.str []),(.int .i64 0),(.bool false),(.int .i64 0),(.str []),AV.aB,AV.aB,AV.aB,AV.aB,nv,ev,(.int .i64 0),(.str []),(.int .i64 0),(.bool false),(.int .i64 0),(.str []),AV.aB,AV.aB,AV.aB,AV.aB,.aB,.bool false,.bool false,.str [],.bool false,.int .i64 (-1)]):=by rw[k2.get (by omega) hdp hdp,g1]
     repeat(refine T.step (by simp(disch:=(first | ((repeat(first | rw[aC] | rw[aE] | rw[List.length_cons] | rw[List.length_nil])) <;> omega) | (refine(?_:_∧True).1; constructor; simp only[aM, *]; exact True.intro))) only[bB,g2]; try exact rfl) ?_)
     refine T.jC (qZ S2.row) ?_
     obtain⟨q,hq,hb⟩:=Option.bind_eq_some_iff.1 hb
     obtain⟨y,z5⟩:=q
     split at hb
     rotate_left
     ·cases hb
     rename_i hm
     refine wS (t:=22) (v:=.str (cJ ws (lP z 3)).1) h2 K2 hp S2 hfn rfl rfl (by simp only[List.length_map]; exact hm.1) (by decide) fun x' st3 h3 K3 S3 hfx hg3 hn3 hFx=>?_
     have E3:Sl st3 10 ev kcs:=Sl.keeps (p:=dO nv) E2 ⟨hn3,hg3⟩ (fun id hi hx=>hd id hx hi)
     have g3:st3.aS.get d=.some (.cells 34 true [.int .i64 4,.str t,.str [],(.int .i64 0),(.str []),(.int .i64 0),(.bool false),(.int .i64 0),(.str []),AV.aB,AV.aB,AV.aB,AV.aB,nv,ev,(.int .i64 0),(.str []),(.int .i64 0),(.bool false),(.int .i64 0),(.str []),AV.aB,AV.aB,AV.aB,AV.aB,.aB,.bool false,.bool false,.str [],.bool false,.int .i64 (-1)]):=by rw[hg3 d (by omega) (fun e=>absurd (hfn d e) (by omega)),g2]
     have ox:=Sl.one S3
     repeat(refine T.step (by simp(disch:=(first | ((repeat(first | rw[aC] | rw[aE] | rw[List.length_cons] | rw[List.length_nil])) <;> omega) | (refine(?_:_∧True).1; constructor; simp only[aM, *]; exact True.intro))) only[bB,g3,Mh ox]; try exact rfl) ?_)
     have h4:=h3.put (id:=d) (.cells 34 true [.int .i64 4,.str t,.str [],(.int .i64 0),(.str []),(.int .i64 0),(.bool false),(.int .i64 0),(.str []),AV.aB,AV.aB,AV.aB,AV.aB,x',ev,(.int .i64 0),(.str []),(.int .i64 0),(.bool false),(.int .i64 0),(.str []),AV.aB,AV.aB,AV.aB,AV.aB,.aB,.bool false,.bool false,.str [],.bool false,.int .i64 (-1)]) hdp
     have K4:KP p d st0 (st3.put d (.cells 34 true [.int .i64 4,.str t,.str [],(.int .i64 0),(.str []),(.int .i64 0),(.bool false),(.int .i64 0),(.str []),AV.aB,AV.aB,AV.aB,AV.aB,x',ev,(.int .i64 0),(.str []),(.int .i64 0),(.bool false),(.int .i64 0),(.str []),AV.aB,AV.aB,AV.aB,AV.aB,.aB,.bool false,.bool false,.str [],.bool false,.int .i64 (-1)])):=K3.BC
     have S4:=Sl.put (d:=d) (o:=.cells 34 true [.int .i64 4,.str t,.str [],(.int .i64 0),(.str []),(.int .i64 0),(.bool false),(.int .i64 0),(.str []),AV.aB,AV.aB,AV.aB,AV.aB,x',ev,(.int .i64 0),(.str []),(.int .i64 0),(.bool false),(.int .i64 0),(.str []),AV.aB,AV.aB,AV.aB,AV.aB,.aB,.bool false,.bool false,.str [],.bool false,.int .i64 (-1)]) S3 (fun e=>absurd (hfx d e) (by omega))
     have E4:=Sl.put (d:=d) (o:=.cells 34 true [.int .i64 4,.str t,.str [],(.int .i64 0),(.str []),(.int .i64 0),(.bool false),(.int .i64 0),(.str []),AV.aB,AV.aB,AV.aB,AV.aB,x',ev,(.int .i64 0),(.str []),(.int .i64 0),(.bool false),(.int .i64 0),(.str []),AV.aB,AV.aB,AV.aB,AV.aB,.aB,.bool false,.bool false,.str [],.bool false,.int .i64 (-1)]) E3 (fun e=>absurd (hfe d e) (by omega))
     refine T.bind (uJ W h4 fun st5 h5 k5=>?_)
     have K5:=K4.trans k5.wide
     have n5:st3.next≤st5.next:=k5.1
     have S5:=(Sl.kp S4 k5 (fun id hi=>⟨fun e=>absurd (hfx id hi) (by omega),fun e=>absurd (hfx id hi) (by omega)⟩))
     have E5:=(Sl.kp E4 k5 (fun id hi=>⟨fun e=>absurd (hfe id hi) (by omega),fun e=>absurd (hfe id hi) (by omega)⟩))
     have g5:st5.aS.get d=.some (.cells 34 true [.int .i64 4,.str t,.str [],(.int .i64 0),(.str []),(.int .i64 0),(.bool false),(.int .i64 0),(.str []),AV.aB,AV.aB,AV.aB,AV.aB,x',ev,(.int .i64 0),(.str []),(.int .i64 0),(.bool false),(.int .i64 0),(.str []),AV.aB,AV.aB,AV.aB,AV.aB,.aB,.bool false,.bool false,.str [],.bool false,.int .i64 (-1)]):=by rw[k5.get (show d<st3.next by omega) hdp hdp,zY rfl]
     repeat(refine T.step (by simp(disch:=(first | ((repeat(first | rw[aC] | rw[aE] | rw[List.length_cons] | rw[List.length_nil])) <;> omega) | (refine(?_:_∧True).1; constructor; simp only[aM, *]; exact True.intro))) only[bB,g5]; try exact rfl) ?_)
     refine T.bind (Gj W h5 hq fun st6 kv1 nv1 hy h6 k6=>?_)
     have K6:=K5.trans k6.wide
     have n_k6:=k6.le; (try simp only[aC,aE] at n_k6)
     have S6:=(Sl.kp S5 k6 (fun id hi=>⟨fun e=>absurd (hfx id hi) (by omega),fun e=>absurd (hfx id hi) (by omega)⟩))
     have E6:=(Sl.kp E5 k6 (fun id hi=>⟨fun e=>absurd (hfe id hi) (by omega),fun e=>absurd (hfe id hi) (by omega)⟩))
     have g6:st6.aS.get d=.some (.cells 34 true [.int .i64 4,.str t,.str [],(.int .i64 0),(.str []),(.int .i64 0),(.bool false),(.int .i64 0),(.str []),AV.aB,AV.aB,AV.aB,AV.aB,x',ev,(.int .i64 0),(.str []),(.int .i64 0),(.bool false),(.int .i64 0),(.str []),AV.aB,AV.aB,AV.aB,AV.aB,.aB,.bool false,.bool false,.str [],.bool false,.int .i64 (-1)]):=by rw[k6.get (by omega) hdp hdp,g5]
     repeat(refine T.step (by simp(disch:=(first | ((repeat(first | rw[aC] | rw[aE] | rw[List.length_cons] | rw[List.length_nil])) <;> omega) | (refine(?_:_∧True).1; constructor; simp only[aM, *]; exact True.intro))) only[bB,g6]; try exact rfl) ?_)
     refine T.jC (AT E6.row hE) ?_
     have hd2:∀ id,dO x' id→ ¬ dO ev id:=fun id h1 h2=>(hFx id h1).elim (fun h=>hd id h h2) (fun h=>absurd (Sl.nV E2 h2) (by omega))
     refine wS (t:=30) (v:=.agg (pM y kv1 nv1)) h6 K6 hp E6 hfe rfl (nZ hy) (by rw[hE.1]; exact hm.2) (by decide) fun y' st7 h7 K7 E7 hfy hg7 hn7 hFy=>?_
     have S7:Sl st7 1 x' ((names.map .str) ++ (AV.str (cJ ws (lP z 3)).1).cells):=Sl.keeps (p:=dO ev) S6 ⟨hn7,hg7⟩ (fun id hi hx=>hd2 id hi hx)
     have g7:st7.aS.get d=.some (.cells 34 true [.int .i64 4,.str t,.str [],(.int .i64 0),(.str []),(.int .i64 0),(.bool false),(.int .i64 0),(.str []),AV.aB,AV.aB,AV.aB,AV.aB,x',ev,(.int .i64 0),(.str []),(.int .i64 0),(.bool false),(.int .i64 0),(.str []),AV.aB,AV.aB,AV.aB,AV.aB,.aB,.bool false,.bool false,.str [],.bool false,.int .i64 (-1)]):=by rw[hg7 d (by omega) (fun e=>absurd (hfe d e) (by omega)),g6]
     have oy:=Sl.one E7
     repeat(refine T.step (by simp(disch:=(first | ((repeat(first | rw[aC] | rw[aE] | rw[List.length_cons] | rw[List.length_nil])) <;> omega) | (refine(?_:_∧True).1; constructor; simp only[aM, *]; exact True.intro))) only[bB,g7,Mh oy]; try exact rfl) ?_)
     have h8:=h7.put (id:=d) (.cells 34 true [.int .i64 4,.str t,.str [],(.int .i64 0),(.str []),(.int .i64 0),(.bool false),(.int .i64 0),(.str []),AV.aB,AV.aB,AV.aB,AV.aB,x',y',(.int .i64 0),(.str []),(.int .i64 0),(.bool false),(.int .i64 0),(.str []),AV.aB,AV.aB,AV.aB,AV.aB,.aB,.bool false,.bool false,.str [],.bool false,.int .i64 (-1)]) hdp
     have K8:KP p d st0 (st7.put d (.cells 34 true [.int .i64 4,.str t,.str [],(.int .i64 0),(.str []),(.int .i64 0),(.bool false),(.int .i64 0),(.str []),AV.aB,AV.aB,AV.aB,AV.aB,x',y',(.int .i64 0),(.str []),(.int .i64 0),(.bool false),(.int .i64 0),(.str []),AV.aB,AV.aB,AV.aB,AV.aB,.aB,.bool false,.bool false,.str [],.bool false,.int .i64 (-1)])):=K7.BC
     have S8:=Sl.put (d:=d) (o:=.cells 34 true [.int .i64 4,.str t,.str [],(.int .i64 0),(.str []),(.int .i64 0),(.bool false),(.int .i64 0),(.str []),AV.aB,AV.aB,AV.aB,AV.aB,x',y',(.int .i64 0),(.str []),(.int .i64 0),(.bool false),(.int .i64 0),(.str []),AV.aB,AV.aB,AV.aB,AV.aB,.aB,.bool false,.bool false,.str [],.bool false,.int .i64 (-1)]) S7 (fun e=>absurd (hfx d e) (by omega))
     have E8:=Sl.put (d:=d) (o:=.cells 34 true [.int .i64 4,.str t,.str [],(.int .i64 0),(.str []),(.int .i64 0),(.bool false),(.int .i64 0),(.str []),AV.aB,AV.aB,AV.aB,AV.aB,x',y',(.int .i64 0),(.str []),(.int .i64 0),(.bool false),(.int .i64 0),(.str []),AV.aB,AV.aB,AV.aB,AV.aB,.aB,.bool false,.bool false,.str [],.bool false,.int .i64 (-1)]) E7 (fun e=>absurd (hfy d e) (by omega))
     have hd3:∀ id,dO x' id→ ¬ dO y' id:=fun id h1 h2=>(hFy id h2).elim (fun h=>hd2 id h1 h) (fun h=>absurd (Sl.nV S6 h1) (by omega))
     rcases e8:iC ws z5 [44] with⟨b8,z6⟩
     rw[e8] at hb
     refine T.bind (rV W h8 e8 fun st9 h9 k9=>?_)
     have K9:=K8.trans k9.wide
     have S9:=(Sl.kp S8 k9 (fun id hi=>⟨fun e=>absurd (hfx id hi) (by omega),fun e=>absurd (hfx id hi) (by omega)⟩))
     have E9:=(Sl.kp E8 k9 (fun id hi=>⟨fun e=>absurd (hfy id hi) (by omega),fun e=>absurd (hfy id hi) (by omega)⟩))
     have g9:st9.aS.get d=.some (.cells 34 true [.int .i64 4,.str t,.str [],(.int .i64 0),(.str []),(.int .i64 0),(.bool false),(.int .i64 0),(.str []),AV.aB,AV.aB,AV.aB,AV.aB,x',y',(.int .i64 0),(.str []),(.int .i64 0),(.bool false),(.int .i64 0),(.str []),AV.aB,AV.aB,AV.aB,AV.aB,.aB,.bool false,.bool false,.str [],.bool false,.int .i64 (-1)]):=by rw[k9.get (show d<st7.next by omega) hdp hdp,zY rfl]
     have S9:Sl st9 1 x' ((names ++ [(cJ ws (lP z 3)).1]).map .str):=by rw[List.map_append]; exact S9
     cases b8 with
     | true =>
       refine T.jC rfl ?_
       exact J9 W hp hd0 hdp hφ r h9 K9 g9 S9 E9 (hE.snoc hy rfl) hfx hfy hd3 hb
     | false =>
       refine T.lG (by decide) ?_
       obtain⟨rfl,h2⟩:=Prod.mk.inj (Option.some.inj hb)
       obtain⟨rfl,rfl⟩:=Prod.mk.inj h2
       exact T.some (hφ _ _ _ _ g9 S9 E9 (hE.snoc hy rfl) h9 K9)
    ·refine T.lG (by omega) ?_
     have hz:zP z names.length=z:=if_neg hn
     rw[hz] at hb
     unfold fB
     refine T.bind (T.some ?_)
     repeat(refine T.step (by simp(disch:=(first | ((repeat(first | rw[aC] | rw[aE] | rw[List.length_cons] | rw[List.length_nil])) <;> omega) | (refine(?_:_∧True).1; constructor; simp only[aM, *]; exact True.intro))) only[bB,hg]; try exact rfl) ?_)
     refine T.bind (oT (z:=z) W hP0 fun st2 h2 k2=>?_)
     have K2:=hK.trans k2.wide
     have n_k2:=k2.le; (try simp only[aC,aE] at n_k2); have n_K2:=K2.le; (try simp only[aC,aE] at n_K2)
     have S2:=(Sl.kp hN k2 (fun id hi=>⟨fun e=>absurd (hfn id hi) (by omega),fun e=>absurd (hfn id hi) (by omega)⟩))
     have E2:=(Sl.kp hEv k2 (fun id hi=>⟨fun e=>absurd (hfe id hi) (by omega),fun e=>absurd (hfe id hi) (by omega)⟩))
     have g2:st2.aS.get d=.some (.cells 34 true [.int .i64 4,.str t,.str [],(.int .i64 0),(.str []),(.int .i64 0),(.bool false),(.int .i64 0),(.str []),AV.aB,AV.aB,AV.aB,AV.aB,nv,ev,(.int .i64 0),(.str []),(.int .i64 0),(.bool false),(.int .i64 0),(.str []),AV.aB,AV.aB,AV.aB,AV.aB,.aB,.bool false,.bool false,.str [],.bool false,.int .i64 (-1)]):=by rw[k2.get (by omega) hdp hdp,hg]
     repeat(refine T.step (by simp(disch:=(first | ((repeat(first | rw[aC] | rw[aE] | rw[List.length_cons] | rw[List.length_nil])) <;> omega) | (refine(?_:_∧True).1; constructor; simp only[aM, *]; exact True.intro))) only[bB,g2]; try exact rfl) ?_)
     refine T.jC (qZ S2.row) ?_
     obtain⟨q,hq,hb⟩:=Option.bind_eq_some_iff.1 hb
     obtain⟨y,z5⟩:=q
     split at hb
     rotate_left
     ·cases hb
     rename_i hm
     refine wS (t:=22) (v:=.str (cJ ws z).1) h2 K2 hp S2 hfn rfl rfl (by simp only[List.length_map]; exact hm.1) (by decide) fun x' st3 h3 K3 S3 hfx hg3 hn3 hFx=>?_
     have E3:Sl st3 10 ev kcs:=Sl.keeps (p:=dO nv) E2 ⟨hn3,hg3⟩ (fun id hi hx=>hd id hx hi)
     have g3:st3.aS.get d=.some (.cells 34 true [.int .i64 4,.str t,.str [],(.int .i64 0),(.str []),(.int .i64 0),(.bool false),(.int .i64 0),(.str []),AV.aB,AV.aB,AV.aB,AV.aB,nv,ev,(.int .i64 0),(.str []),(.int .i64 0),(.bool false),(.int .i64 0),(.str []),AV.aB,AV.aB,AV.aB,AV.aB,.aB,.bool false,.bool false,.str [],.bool false,.int .i64 (-1)]):=by rw[hg3 d (by omega) (fun e=>absurd (hfn d e) (by omega)),g2]
     have ox:=Sl.one S3
     repeat(refine T.step (by simp(disch:=(first | ((repeat(first | rw[aC] | rw[aE] | rw[List.length_cons] | rw[List.length_nil])) <;> omega) | (refine(?_:_∧True).1; constructor; simp only[aM, *]; exact True.intro))) only[bB,g3,Mh ox]; try exact rfl) ?_)
     have h4:=h3.put (id:=d) (.cells 34 true [.int .i64 4,.str t,.str [],(.int .i64 0),(.str []),(.int .i64 0),(.bool false),(.int .i64 0),(.str []),AV.aB,AV.aB,AV.aB,AV.aB,x',ev,(.int .i64 0),(.str []),(.int .i64 0),(.bool false),(.int .i64 0),(.str []),AV.aB,AV.aB,AV.aB,AV.aB,.aB,.bool false,.bool false,.str [],.bool false,.int .i64 (-1)]) hdp
     have K4:KP p d st0 (st3.put d (.cells 34 true [.int .i64 4,.str t,.str [],(.int .i64 0),(.str []),(.int .i64 0),(.bool false),(.int .i64 0),(.str []),AV.aB,AV.aB,AV.aB,AV.aB,x',ev,(.int .i64 0),(.str []),(.int .i64 0),(.bool false),(.int .i64 0),(.str []),AV.aB,AV.aB,AV.aB,AV.aB,.aB,.bool false,.bool false,.str [],.bool false,.int .i64 (-1)])):=K3.BC
     have S4:=Sl.put (d:=d) (o:=.cells 34 true [.int .i64 4,.str t,.str [],(.int .i64 0),(.str []),(.int .i64 0),(.bool false),(.int .i64 0),(.str []),AV.aB,AV.aB,AV.aB,AV.aB,x',ev,(.int .i64 0),(.str []),(.int .i64 0),(.bool false),(.int .i64 0),(.str []),AV.aB,AV.aB,AV.aB,AV.aB,.aB,.bool false,.bool false,.str [],.bool false,.int .i64 (-1)]) S3 (fun e=>absurd (hfx d e) (by omega))
     have E4:=Sl.put (d:=d) (o:=.cells 34 true [.int .i64 4,.str t,.str [],(.int .i64 0),(.str []),(.int .i64 0),(.bool false),(.int .i64 0),(.str []),AV.aB,AV.aB,AV.aB,AV.aB,x',ev,(.int .i64 0),(.str []),(.int .i64 0),(.bool false),(.int .i64 0),(.str []),AV.aB,AV.aB,AV.aB,AV.aB,.aB,.bool false,.bool false,.str [],.bool false,.int .i64 (-1)]) E3 (fun e=>absurd (hfe d e) (by omega))
     refine T.bind (uJ W h4 fun st5 h5 k5=>?_)
     have K5:=K4.trans k5.wide
     have n5:st3.next≤st5.next:=k5.1
     have S5:=(Sl.kp S4 k5 (fun id hi=>⟨fun e=>absurd (hfx id hi) (by omega),fun e=>absurd (hfx id hi) (by omega)⟩))
     have E5:=(Sl.kp E4 k5 (fun id hi=>⟨fun e=>absurd (hfe id hi) (by omega),fun e=>absurd (hfe id hi) (by omega)⟩))
     have g5:st5.aS.get d=.some (.cells 34 true [.int .i64 4,.str t,.str [],(.int .i64 0),(.str []),(.int .i64 0),(.bool false),(.int .i64 0),(.str []),AV.aB,AV.aB,AV.aB,AV.aB,x',ev,(.int .i64 0),(.str []),(.int .i64 0),(.bool false),(.int .i64 0),(.str []),AV.aB,AV.aB,AV.aB,AV.aB,.aB,.bool false,.bool false,.str [],.bool false,.int .i64 (-1)]):=by rw[k5.get (show d<st3.next by omega) hdp hdp,zY rfl]
     repeat(refine T.step (by simp(disch:=(first | ((repeat(first | rw[aC] | rw[aE] | rw[List.length_cons] | rw[List.length_nil])) <;> omega) | (refine(?_:_∧True).1; constructor; simp only[aM, *]; exact True.intro))) only[bB,g5]; try exact rfl) ?_)
     refine T.bind (Gj W h5 hq fun st6 kv1 nv1 hy h6 k6=>?_)
     have K6:=K5.trans k6.wide
     have n_k6:=k6.le; (try simp only[aC,aE] at n_k6)
     have S6:=(Sl.kp S5 k6 (fun id hi=>⟨fun e=>absurd (hfx id hi) (by omega),fun e=>absurd (hfx id hi) (by omega)⟩))
     have E6:=(Sl.kp E5 k6 (fun id hi=>⟨fun e=>absurd (hfe id hi) (by omega),fun e=>absurd (hfe id hi) (by omega)⟩))
     have g6:st6.aS.get d=.some (.cells 34 true [.int .i64 4,.str t,.str [],(.int .i64 0),(.str []),(.int .i64 0),(.bool false),(.int .i64 0),(.str []),AV.aB,AV.aB,AV.aB,AV.aB,x',ev,(.int .i64 0),(.str []),(.int .i64 0),(.bool false),(.int .i64 0),(.str []),AV.aB,AV.aB,AV.aB,AV.aB,.aB,.bool false,.bool false,.str [],.bool false,.int .i64 (-1)]):=by rw[k6.get (by omega) hdp hdp,g5]
     repeat(refine T.step (by simp(disch:=(first | ((repeat(first | rw[aC] | rw[aE] | rw[List.length_cons] | rw[List.length_nil])) <;> omega) | (refine(?_:_∧True).1; constructor; simp only[aM, *]; exact True.intro))) only[bB,g6]; try exact rfl) ?_)
     refine T.jC (AT E6.row hE) ?_
     have hd2:∀ id,dO x' id→ ¬ dO ev id:=fun id h1 h2=>(hFx id h1).elim (fun h=>hd id h h2) (fun h=>absurd (Sl.nV E2 h2) (by omega))
     refine wS (t:=30) (v:=.agg (pM y kv1 nv1)) h6 K6 hp E6 hfe rfl (nZ hy) (by rw[hE.1]; exact hm.2) (by decide) fun y' st7 h7 K7 E7 hfy hg7 hn7 hFy=>?_
     have S7:Sl st7 1 x' ((names.map .str) ++ (AV.str (cJ ws z).1).cells):=Sl.keeps (p:=dO ev) S6 ⟨hn7,hg7⟩ (fun id hi hx=>hd2 id hi hx)
     have g7:st7.aS.get d=.some (.cells 34 true [.int .i64 4,.str t,.str [],(.int .i64 0),(.str []),(.int .i64 0),(.bool false),(.int .i64 0),(.str []),AV.aB,AV.aB,AV.aB,AV.aB,x',ev,(.int .i64 0),(.str []),(.int .i64 0),(.bool false),(.int .i64 0),(.str []),AV.aB,AV.aB,AV.aB,AV.aB,.aB,.bool false,.bool false,.str [],.bool false,.int .i64 (-1)]):=by rw[hg7 d (by omega) (fun e=>absurd (hfe d e) (by omega)),g6]
     have oy:=Sl.one E7
     repeat(refine T.step (by simp(disch:=(first | ((repeat(first | rw[aC] | rw[aE] | rw[List.length_cons] | rw[List.length_nil])) <;> omega) | (refine(?_:_∧True).1; constructor; simp only[aM, *]; exact True.intro))) only[bB,g7,Mh oy]; try exact rfl) ?_)
     have h8:=h7.put (id:=d) (.cells 34 true [.int .i64 4,.str t,.str [],(.int .i64 0),(.str []),(.int .i64 0),(.bool false),(.int .i64 0),(.str []),AV.aB,AV.aB,AV.aB,AV.aB,x',y',(.int .i64 0),(.str []),(.int .i64 0),(.bool false),(.int .i64 0),(.str []),AV.aB,AV.aB,AV.aB,AV.aB,.aB,.bool false,.bool false,.str [],.bool false,.int .i64 (-1)]) hdp
     have K8:KP p d st0 (st7.put d (.cells 34 true [.int .i64 4,.str t,.str [],(.int .i64 0),(.str []),(.int .i64 0),(.bool false),(.int .i64 0),(.str []),AV.aB,AV.aB,AV.aB,AV.aB,x',y',(.int .i64 0),(.str []),(.int .i64 0),(.bool false),(.int .i64 0),(.str []),AV.aB,AV.aB,AV.aB,AV.aB,.aB,.bool false,.bool false,.str [],.bool false,.int .i64 (-1)])):=K7.BC
     have S8:=Sl.put (d:=d) (o:=.cells 34 true [.int .i64 4,.str t,.str [],(.int .i64 0),(.str []),(.int .i64 0),(.bool false),(.int .i64 0),(.str []),AV.aB,AV.aB,AV.aB,AV.aB,x',y',(.int .i64 0),(.str []),(.int .i64 0),(.bool false),(.int .i64 0),(.str []),AV.aB,AV.aB,AV.aB,AV.aB,.aB,.bool false,.bool false,.str [],.bool false,.int .i64 (-1)]) S7 (fun e=>absurd (hfx d e) (by omega))
     have E8:=Sl.put (d:=d) (o:=.cells 34 true [.int .i64 4,.str t,.str [],(.int .i64 0),(.str []),(.int .i64 0),(.bool false),(.int .i64 0),(.str []),AV.aB,AV.aB,AV.aB,AV.aB,x',y',(.int .i64 0),(.str []),(.int .i64 0),(.bool false),(.int .i64 0),(.str []),AV.aB,AV.aB,AV.aB,AV.aB,.aB,.bool false,.bool false,.str [],.bool false,.int .i64 (-1)]) E7 (fun e=>absurd (hfy d e) (by omega))
     have hd3:∀ id,dO x' id→ ¬ dO y' id:=fun id h1 h2=>(hFy id h2).elim (fun h=>hd2 id h1 h) (fun h=>absurd (Sl.nV S6 h1) (by omega))
     rcases e8:iC ws z5 [44] with⟨b8,z6⟩
     rw[e8] at hb
     refine T.bind (rV W h8 e8 fun st9 h9 k9=>?_)
     have K9:=K8.trans k9.wide
     have S9:=(Sl.kp S8 k9 (fun id hi=>⟨fun e=>absurd (hfx id hi) (by omega),fun e=>absurd (hfx id hi) (by omega)⟩))
     have E9:=(Sl.kp E8 k9 (fun id hi=>⟨fun e=>absurd (hfy id hi) (by omega),fun e=>absurd (hfy id hi) (by omega)⟩))
     have g9:st9.aS.get d=.some (.cells 34 true [.int .i64 4,.str t,.str [],(.int .i64 0),(.str []),(.int .i64 0),(.bool false),(.int .i64 0),(.str []),AV.aB,AV.aB,AV.aB,AV.aB,x',y',(.int .i64 0),(.str []),(.int .i64 0),(.bool false),(.int .i64 0),(.str []),AV.aB,AV.aB,AV.aB,AV.aB,.aB,.bool false,.bool false,.str [],.bool false,.int .i64 (-1)]):=by rw[k9.get (show d<st7.next by omega) hdp hdp,zY rfl]
     have S9:Sl st9 1 x' ((names ++ [(cJ ws z).1]).map .str):=by rw[List.map_append]; exact S9
     cases b8 with
     | true =>
       refine T.jC rfl ?_
       exact J9 W hp hd0 hdp hφ r h9 K9 g9 S9 E9 (hE.snoc hy rfl) hfx hfy hd3 hb
     | false =>
       refine T.lG (by decide) ?_
       obtain⟨rfl,h2⟩:=Prod.mk.inj (Option.some.inj hb)
       obtain⟨rfl,rfl⟩:=Prod.mk.inj h2
       exact T.some (hφ _ _ _ _ g9 S9 E9 (hE.snoc hy rfl) h9 K9)
   ·rw[if_neg he] at hb
    refine T.lG he ?_
    obtain⟨rfl,h2⟩:=Prod.mk.inj (Option.some.inj hb)
    obtain⟨rfl,rfl⟩:=Prod.mk.inj h2
    exact T.some (hφ _ _ _ _ hg hN hEv hE hP0 hK)
def wB (ws:List W)(Rn:Nat)(z:Z):Option (Sm×Z):=
 (Bo ws Rn Rn [] [] (dE ws (cJ ws z).2 2 [83,69,84])).bind fun q=>(wZ ws Rn q.2.2).bind fun w=>.some (⟨4,(cJ ws z).1,[],E0,q.1,q.2.1,w.1,[],false,false,[],false,-1⟩,w.2)
theorem ML {ws:List W}(W:Wf ws){R:Nat}{st:St}{p:Nat}{z z':Z}{m:Sm}{φ:Int×List UInt8×List UInt8×Int×List UInt8×Int×Bool×Int×List UInt8×AV×AV×AV×AV×AV×AV×Int×List UInt8×Int×Bool×Int×List UInt8×AV×AV×AV×AV×AV×Bool×Bool×List UInt8×Bool×Int×St→Prop}
 (hP:PS ws st p z) (hb:wB ws R z=.some (m,z')) (hφ:SP ws st p m z' φ):T φ (jO R (.ref p 0) st):=by
 have hp:=hP.lt
 unfold jO
 unfold wB at hb
 obtain⟨q,hq,hb⟩:=Option.bind_eq_some_iff.1 hb
 obtain⟨names,exprs,z2⟩:=q
 obtain⟨w,hw,hb⟩:=Option.bind_eq_some_iff.1 hb
 obtain⟨w,z3⟩:=w
 obtain⟨rfl,rfl⟩:=Prod.mk.inj (Option.some.inj hb)
 refine T.bind (oT (z:=z) W (by repeat' (first | exact hP | refine PS.push ?_ _ | refine PS.put ?_ _ ?_ | ((try simp only[aC,aE]) <;> omega))) fun st1 h1 k1=>?_)
 have n_k1:=k1.le; (try simp only[aC,aE] at n_k1)
 have K1:KP p p st st1:=(by repeat' (first | exact KP.trans (by repeat' (first | exact KP.refl | exact KP.refl | refine KP.eI ?_ | refine KP.loc ?_ ?_ | exact Or.inl rfl | exact Or.inr (Or.inl rfl) | ((try simp only[aC,aE]) <;> omega))) k1 | refine KP.eI ?_ | refine KP.loc ?_ ?_ | exact Or.inl rfl | exact Or.inr (Or.inl rfl) | ((try simp only[aC,aE]) <;> omega)))
 have hp1:=h1.lt
 repeat(refine T.step (by simp(disch:=(first | ((repeat(first | rw[aC] | rw[aE] | rw[List.length_cons] | rw[List.length_nil])) <;> omega) | (refine(?_:_∧True).1; constructor; simp only[aM, *]; exact True.intro))) only[bB]; try exact rfl) ?_)
 refine T.bind (qD (ws:=ws) (z:=(cJ ws z).2) W (by repeat' (first | exact h1 | refine PS.push ?_ _ | refine PS.put ?_ _ ?_ | ((try simp only[aC,aE]) <;> omega))) fun st2 h2 k2=>?_)
 have n_k2:=k2.le; (try simp only[aC,aE] at n_k2)
 have K2:KP p p st st2:=(by repeat' (first | exact KP.trans (by repeat' (first | exact K1 | exact KP.refl | refine KP.eI ?_ | refine KP.loc ?_ ?_ | exact Or.inl rfl | exact Or.inr (Or.inl rfl) | ((try simp only[aC,aE]) <;> omega))) k2 | refine KP.eI ?_ | refine KP.loc ?_ ?_ | exact Or.inl rfl | exact Or.inr (Or.inl rfl) | ((try simp only[aC,aE]) <;> omega)))
 have g2:st2.aS.get st1.next=.some (.cells 34 true [.int .i64 4,.str (cJ ws z).1,.str [],(.int .i64 0),(.str []),(.int .i64 0),(.bool false),(.int .i64 0),(.str []),AV.aB,AV.aB,AV.aB,AV.aB,.aB,.aB,(.int .i64 0),(.str []),(.int .i64 0),(.bool false),(.int .i64 0),(.str []),AV.aB,AV.aB,AV.aB,AV.aB,.aB,.bool false,.bool false,.str [],.bool false,.int .i64 (-1)]):=by simp(disch:=(first | ((repeat(first | rw[aC] | rw[aE] | rw[List.length_cons] | rw[List.length_nil])) <;> omega) | (refine(?_:_∧True).1; constructor; simp only[aM, *]; exact True.intro))) only[dH,k2.2.1]
 have gr2:st2.aS.get st.next=.some (.cells 34 true [.int .i64 0,.str [],.str [],(.int .i64 0),(.str []),(.int .i64 0),(.bool false),(.int .i64 0),(.str []),AV.aB,AV.aB,AV.aB,AV.aB,.aB,.aB,(.int .i64 0),(.str []),(.int .i64 0),(.bool false),(.int .i64 0),(.str []),AV.aB,AV.aB,AV.aB,AV.aB,.aB,.bool false,.bool false,.str [],.bool false,.int .i64 0]):=by simp(disch:=(first | ((repeat(first | rw[aC] | rw[aE] | rw[List.length_cons] | rw[List.length_nil])) <;> omega) | (refine(?_:_∧True).1; constructor; simp only[aM, *]; exact True.intro))) only[dH,k2.2.1,k1.2.1]
 unfold iS
 refine T.bind (T.bind (J9 W (st0:=st2) (p:=p) (d:=st1.next) (t:=(cJ ws z).1) (by omega) (by omega) (by omega) (fun st3 nv ev kcs g3 S3 E3 hE3 h3 k3=>T.some ?_) R h2 KP.refl g2 (Sl.nil _ _) (Sl.nil _ _) BV.nil (names:=[]) (fun id hi=>hi.elim) (fun id hi=>hi.elim) (fun id hi=>hi.elim) hq))
 have n_k3:=k3.le; (try simp only[aC,aE] at n_k3)
 have on:=Sl.one S3
 have oe:=Sl.one E3
 have K3:KP p p st st3:=K2.inner k3 (by omega)
 have gr3:st3.aS.get st.next=.some (.cells 34 true [.int .i64 0,.str [],.str [],(.int .i64 0),(.str []),(.int .i64 0),(.bool false),(.int .i64 0),(.str []),AV.aB,AV.aB,AV.aB,AV.aB,.aB,.aB,(.int .i64 0),(.str []),(.int .i64 0),(.bool false),(.int .i64 0),(.str []),AV.aB,AV.aB,AV.aB,AV.aB,.aB,.bool false,.bool false,.str [],.bool false,.int .i64 0]):=by rw[k3.get (by omega) (by omega) (by omega),gr2]
 refine T.bind (Fx W h3 hw fun st4 kv nw hx h4 k4=>?_)
 have n_k4:=k4.le; (try simp only[aC,aE] at n_k4)
 obtain⟨o1,o2⟩:=hx.one
 have K4:=K3.trans k4
 repeat(refine T.step (by simp(disch:=(first | ((repeat(first | rw[aC] | rw[aE] | rw[List.length_cons] | rw[List.length_nil])) <;> omega) | (refine(?_:_∧True).1; constructor; simp only[aM, *]; exact True.intro))) only[bB,k4.2.1,g3,gr3,F3,dK]; try exact rfl) ?_)
 exact T.some (hφ _ _ _ _ _ _ _ _ ⟨RX.e0,S3.row,⟨_,E3.row,hE3⟩,hx,Row.nil⟩ (by repeat' (first | exact h4 | refine PS.push ?_ _ | refine PS.put ?_ _ ?_ | ((try simp only[aC,aE]) <;> omega))) (by repeat' (first | exact K4 | exact KP.refl | refine KP.eI ?_ | refine KP.loc ?_ ?_ | exact Or.inl rfl | exact Or.inr (Or.inl rfl) | ((try simp only[aC,aE]) <;> omega))))
end
end Go.Proofs.YthodfojhbbendaaDoor
end
section
set_option linter.all false
set_option maxRecDepth 100000
set_option maxHeartbeats 1000000
namespace Go.Proofs.YthodfojhbbendaaDoor
open Go Go.Ev
noncomputable section
attribute [local congr] rL zU
theorem KP.GV {p d:Nat}{st b c:St}(h:KP p p st b)(k:KP p d b c)(hd:st.next≤d):KP p p st c:=h.inner k hd
def Bx (ws : List W) (Rn : Nat) : Nat → List (List UInt8) → Z → Option (List (List UInt8) × Z)
 | 0,_,_=>none
 | r + 1, nG, z => match iC ws z [44] with
   | (true,z1)=>(Bw ws Rn (zP z1 nG.length)).bind fun q=>if nG.length≤iT then Bx ws Rn r (nG ++ [q.1]) q.2 else none
   | (false,z1)=>.some (nG,z1)
theorem IY {ws : List W} (W : Wf ws) {R : Nat} {p d d1 : Nat} {st0 : St} {φ : St → Prop} {cols' : List (List UInt8)} {z' : Z}
 (hp:p<st0.next) (hd0:d<st0.next) (hdp:d≠p)
 (hφ:∀ st1 cv,st1.aS.get d=.some (.cells 34 true [.int .i64 6,.str [],.str [],(.int .i64 0),(.str []),(.int .i64 0),(.bool false),(.int .i64 0),(.str []),AV.aB,AV.aB,AV.aB,AV.aB,.aB,.aB,(.int .i64 0),(.str []),(.int .i64 0),(.bool false),(.int .i64 0),(.str []),AV.aB,AV.aB,AV.aB,AV.aB,cv,.bool false,.bool false,.str [],.bool false,.int .i64 (-1)])→Row 1 cv (cols'.map .str)→PS ws st1 p z'→KP p d st0 st1→φ st1):
 ∀ (r : Nat) {st : St} {cv : AV} {nG : List (List UInt8)} {z : Z}, PS ws st p z → KP p d st0 st → st.aS.get d = .some (.cells 34 true [.int .i64 6, .str [], .str [], (.int .i64 0), (.str []), (.int .i64 0), (.bool false), (.int .i64 0), (.str []), AV.aB, AV.aB, AV.aB, AV.aB, .aB, .aB, (.int .i64 0), (.str []), (.int .i64 0), (.bool false), (.int .i64 0), (.str []), AV.aB, AV.aB, AV.aB, AV.aB, cv, .bool false, .bool false, .str [], .bool false, .int .i64 (-1)]) → Sl st 1 cv (nG.map .str) →
  (∀ id,dO cv id→st0.next≤id)→Bx ws R r nG z=.some (cols',z')→T φ (cX R (.ref p 0) d1 d r st)
 | 0,_,_,_,_,_,_,_,_,_,hb=>by cases hb
 | r + 1, st, cv, nG, z, hP, hK, hg, hS, hfn, hb => by
   have oc:=Sl.one hS
   have hK1:=hK.1
   unfold cX
   unfold Bx at hb
   rcases e1:iC ws z [44] with⟨b1,z1⟩
   rw[e1] at hb
   refine T.bind (rV W hP e1 fun st1 h1 k1=>?_)
   have K1:=hK.trans k1.wide
   have n_k1:=k1.le; (try simp only[aC,aE] at n_k1)
   have S1:=(Sl.kp hS k1 (fun id hi=>⟨fun e=>absurd (hfn id hi) (by omega),fun e=>absurd (hfn id hi) (by omega)⟩))
   have g1:st1.aS.get d=.some (.cells 34 true [.int .i64 6,.str [],.str [],(.int .i64 0),(.str []),(.int .i64 0),(.bool false),(.int .i64 0),(.str []),AV.aB,AV.aB,AV.aB,AV.aB,.aB,.aB,(.int .i64 0),(.str []),(.int .i64 0),(.bool false),(.int .i64 0),(.str []),AV.aB,AV.aB,AV.aB,AV.aB,cv,.bool false,.bool false,.str [],.bool false,.int .i64 (-1)]):=by rw[k1.get (by omega) hdp hdp,hg]
   cases b1 with
   | true =>
     refine T.jC rfl ?_
     simp only at hb
     have hlen:lenOf cv=.some nG.length:=by
      rw[Bl S1 (by decide),List.length_map,Nat.div_one]
     repeat(refine T.step (by simp(disch:=(first | ((repeat(first | rw[aC] | rw[aE] | rw[List.length_cons] | rw[List.length_nil])) <;> omega) | (refine(?_:_∧True).1; constructor; simp only[aM, *]; exact True.intro))) only[bB,g1]; try exact rfl) ?_)
     refine T.step hlen ?_
     by_cases hn:32≤nG.length
     ·refine T.jC (by omega) ?_
      have hz:zP z1 nG.length=lP z1 3:=if_pos hn
      rw[hz] at hb
      unfold eM
      refine T.bind (T.bind (oF h1 fun st2 h2 k2 hn1=>T.some ?_))
      have K2:=K1.trans k2.wide
      have S2:=(Sl.kp S1 k2 (fun id hi=>⟨fun e=>absurd (hfn id hi) (by omega),fun e=>absurd (hfn id hi) (by omega)⟩))
      have g2:st2.aS.get d=.some (.cells 34 true [.int .i64 6,.str [],.str [],(.int .i64 0),(.str []),(.int .i64 0),(.bool false),(.int .i64 0),(.str []),AV.aB,AV.aB,AV.aB,AV.aB,.aB,.aB,(.int .i64 0),(.str []),(.int .i64 0),(.bool false),(.int .i64 0),(.str []),AV.aB,AV.aB,AV.aB,AV.aB,cv,.bool false,.bool false,.str [],.bool false,.int .i64 (-1)]):=by rw[k2.get (by omega) hdp hdp,g1]
      repeat(refine T.step (by simp(disch:=(first | ((repeat(first | rw[aC] | rw[aE] | rw[List.length_cons] | rw[List.length_nil])) <;> omega) | (refine(?_:_∧True).1; constructor; simp only[aM, *]; exact True.intro))) only[bB,g2]; try exact rfl) ?_)
      obtain⟨q,hq,hb⟩:=Option.bind_eq_some_iff.1 hb
      obtain⟨s,z5⟩:=q
      split at hb
      rotate_left
      ·cases hb
      rename_i hm
      refine T.bind (Eo W h2 hq fun st3 h3 k3=>?_)
      have K3:=K2.trans k3.wide
      have n_k3:=k3.le; (try simp only[aC,aE] at n_k3); have n_K3:=K3.le; (try simp only[aC,aE] at n_K3)
      have S3:=(Sl.kp S2 k3 (fun id hi=>⟨fun e=>absurd (hfn id hi) (by omega),fun e=>absurd (hfn id hi) (by omega)⟩))
      have g3:st3.aS.get d=.some (.cells 34 true [.int .i64 6,.str [],.str [],(.int .i64 0),(.str []),(.int .i64 0),(.bool false),(.int .i64 0),(.str []),AV.aB,AV.aB,AV.aB,AV.aB,.aB,.aB,(.int .i64 0),(.str []),(.int .i64 0),(.bool false),(.int .i64 0),(.str []),AV.aB,AV.aB,AV.aB,AV.aB,cv,.bool false,.bool false,.str [],.bool false,.int .i64 (-1)]):=by rw[k3.get (by omega) hdp hdp,g2]
      repeat(refine T.step (by simp(disch:=(first | ((repeat(first | rw[aC] | rw[aE] | rw[List.length_cons] | rw[List.length_nil])) <;> omega) | (refine(?_:_∧True).1; constructor; simp only[aM, *]; exact True.intro))) only[bB,g3]; try exact rfl) ?_)
      refine T.jC (qZ S3.row) ?_
      refine wS (t:=22) (v:=.str s) h3 K3 hp S3 hfn rfl rfl (by simp only[List.length_map]; exact hm) (by decide) fun x' st4 h4 K4 S4 hfx hg4 hn4 hFx=>?_
      have g4:st4.aS.get d=.some (.cells 34 true [.int .i64 6,.str [],.str [],(.int .i64 0),(.str []),(.int .i64 0),(.bool false),(.int .i64 0),(.str []),AV.aB,AV.aB,AV.aB,AV.aB,.aB,.aB,(.int .i64 0),(.str []),(.int .i64 0),(.bool false),(.int .i64 0),(.str []),AV.aB,AV.aB,AV.aB,AV.aB,cv,.bool false,.bool false,.str [],.bool false,.int .i64 (-1)]):=by rw[hg4 d (by omega) (fun e=>absurd (hfn d e) (by omega)),g3]
      have ox:=Sl.one S4
      repeat(refine T.step (by simp(disch:=(first | ((repeat(first | rw[aC] | rw[aE] | rw[List.length_cons] | rw[List.length_nil])) <;> omega) | (refine(?_:_∧True).1; constructor; simp only[aM, *]; exact True.intro))) only[bB,g4,Mh ox]; try exact rfl) ?_)
      have h5:=h4.put (id:=d) (.cells 34 true [.int .i64 6,.str [],.str [],(.int .i64 0),(.str []),(.int .i64 0),(.bool false),(.int .i64 0),(.str []),AV.aB,AV.aB,AV.aB,AV.aB,.aB,.aB,(.int .i64 0),(.str []),(.int .i64 0),(.bool false),(.int .i64 0),(.str []),AV.aB,AV.aB,AV.aB,AV.aB,x',.bool false,.bool false,.str [],.bool false,.int .i64 (-1)]) hdp
      have K5:KP p d st0 (st4.put d (.cells 34 true [.int .i64 6,.str [],.str [],(.int .i64 0),(.str []),(.int .i64 0),(.bool false),(.int .i64 0),(.str []),AV.aB,AV.aB,AV.aB,AV.aB,.aB,.aB,(.int .i64 0),(.str []),(.int .i64 0),(.bool false),(.int .i64 0),(.str []),AV.aB,AV.aB,AV.aB,AV.aB,x',.bool false,.bool false,.str [],.bool false,.int .i64 (-1)])):=K4.BC
      have S5:=Sl.put (d:=d) (o:=.cells 34 true [.int .i64 6,.str [],.str [],(.int .i64 0),(.str []),(.int .i64 0),(.bool false),(.int .i64 0),(.str []),AV.aB,AV.aB,AV.aB,AV.aB,.aB,.aB,(.int .i64 0),(.str []),(.int .i64 0),(.bool false),(.int .i64 0),(.str []),AV.aB,AV.aB,AV.aB,AV.aB,x',.bool false,.bool false,.str [],.bool false,.int .i64 (-1)]) S4 (fun e=>absurd (hfx d e) (by omega))
      have S9:Sl (st4.put d (.cells 34 true [.int .i64 6,.str [],.str [],(.int .i64 0),(.str []),(.int .i64 0),(.bool false),(.int .i64 0),(.str []),AV.aB,AV.aB,AV.aB,AV.aB,.aB,.aB,(.int .i64 0),(.str []),(.int .i64 0),(.bool false),(.int .i64 0),(.str []),AV.aB,AV.aB,AV.aB,AV.aB,x',.bool false,.bool false,.str [],.bool false,.int .i64 (-1)])) 1 x' ((nG ++ [s]).map .str):=by rw[List.map_append]; exact S5
      exact IY W hp hd0 hdp hφ r h5 K5 (zY rfl) S9 hfx hb
     ·refine T.lG (by omega) ?_
      have hz:zP z1 nG.length=z1:=if_neg hn
      rw[hz] at hb
      unfold eD
      refine T.bind (T.some ?_)
      repeat(refine T.step (by simp(disch:=(first | ((repeat(first | rw[aC] | rw[aE] | rw[List.length_cons] | rw[List.length_nil])) <;> omega) | (refine(?_:_∧True).1; constructor; simp only[aM, *]; exact True.intro))) only[bB,g1]; try exact rfl) ?_)
      obtain⟨q,hq,hb⟩:=Option.bind_eq_some_iff.1 hb
      obtain⟨s,z5⟩:=q
      split at hb
      rotate_left
      ·cases hb
      rename_i hm
      refine T.bind (Eo W h1 hq fun st3 h3 k3=>?_)
      have K3:=K1.trans k3.wide
      have n_k3:=k3.le; (try simp only[aC,aE] at n_k3); have n_K3:=K3.le; (try simp only[aC,aE] at n_K3)
      have S3:=(Sl.kp S1 k3 (fun id hi=>⟨fun e=>absurd (hfn id hi) (by omega),fun e=>absurd (hfn id hi) (by omega)⟩))
      have g3:st3.aS.get d=.some (.cells 34 true [.int .i64 6,.str [],.str [],(.int .i64 0),(.str []),(.int .i64 0),(.bool false),(.int .i64 0),(.str []),AV.aB,AV.aB,AV.aB,AV.aB,.aB,.aB,(.int .i64 0),(.str []),(.int .i64 0),(.bool false),(.int .i64 0),(.str []),AV.aB,AV.aB,AV.aB,AV.aB,cv,.bool false,.bool false,.str [],.bool false,.int .i64 (-1)]):=by rw[k3.get (by omega) hdp hdp,g1]
      repeat(refine T.step (by simp(disch:=(first | ((repeat(first | rw[aC] | rw[aE] | rw[List.length_cons] | rw[List.length_nil])) <;> omega) | (refine(?_:_∧True).1; constructor; simp only[aM, *]; exact True.intro))) only[bB,g3]; try exact rfl) ?_)
      refine T.jC (qZ S3.row) ?_
      refine wS (t:=22) (v:=.str s) h3 K3 hp S3 hfn rfl rfl (by simp only[List.length_map]; exact hm) (by decide) fun x' st4 h4 K4 S4 hfx hg4 hn4 hFx=>?_
      have g4:st4.aS.get d=.some (.cells 34 true [.int .i64 6,.str [],.str [],(.int .i64 0),(.str []),(.int .i64 0),(.bool false),(.int .i64 0),(.str []),AV.aB,AV.aB,AV.aB,AV.aB,.aB,.aB,(.int .i64 0),(.str []),(.int .i64 0),(.bool false),(.int .i64 0),(.str []),AV.aB,AV.aB,AV.aB,AV.aB,cv,.bool false,.bool false,.str [],.bool false,.int .i64 (-1)]):=by rw[hg4 d (by omega) (fun e=>absurd (hfn d e) (by omega)),g3]
      have ox:=Sl.one S4
      repeat(refine T.step (by simp(disch:=(first | ((repeat(first | rw[aC] | rw[aE] | rw[List.length_cons] | rw[List.length_nil])) <;> omega) | (refine(?_:_∧True).1; constructor; simp only[aM, *]; exact True.intro))) only[bB,g4,Mh ox]; try exact rfl) ?_)
      have h5:=h4.put (id:=d) (.cells 34 true [.int .i64 6,.str [],.str [],(.int .i64 0),(.str []),(.int .i64 0),(.bool false),(.int .i64 0),(.str []),AV.aB,AV.aB,AV.aB,AV.aB,.aB,.aB,(.int .i64 0),(.str []),(.int .i64 0),(.bool false),(.int .i64 0),(.str []),AV.aB,AV.aB,AV.aB,AV.aB,x',.bool false,.bool false,.str [],.bool false,.int .i64 (-1)]) hdp
      have K5:KP p d st0 (st4.put d (.cells 34 true [.int .i64 6,.str [],.str [],(.int .i64 0),(.str []),(.int .i64 0),(.bool false),(.int .i64 0),(.str []),AV.aB,AV.aB,AV.aB,AV.aB,.aB,.aB,(.int .i64 0),(.str []),(.int .i64 0),(.bool false),(.int .i64 0),(.str []),AV.aB,AV.aB,AV.aB,AV.aB,x',.bool false,.bool false,.str [],.bool false,.int .i64 (-1)])):=K4.BC
      have S5:=Sl.put (d:=d) (o:=.cells 34 true [.int .i64 6,.str [],.str [],(.int .i64 0),(.str []),(.int .i64 0),(.bool false),(.int .i64 0),(.str []),AV.aB,AV.aB,AV.aB,AV.aB,.aB,.aB,(.int .i64 0),(.str []),(.int .i64 0),(.bool false),(.int .i64 0),(.str []),AV.aB,AV.aB,AV.aB,AV.aB,x',.bool false,.bool false,.str [],.bool false,.int .i64 (-1)]) S4 (fun e=>absurd (hfx d e) (by omega))
      have S9:Sl (st4.put d (.cells 34 true [.int .i64 6,.str [],.str [],(.int .i64 0),(.str []),(.int .i64 0),(.bool false),(.int .i64 0),(.str []),AV.aB,AV.aB,AV.aB,AV.aB,.aB,.aB,(.int .i64 0),(.str []),(.int .i64 0),(.bool false),(.int .i64 0),(.str []),AV.aB,AV.aB,AV.aB,AV.aB,x',.bool false,.bool false,.str [],.bool false,.int .i64 (-1)])) 1 x' ((nG ++ [s]).map .str):=by rw[List.map_append]; exact S5
      exact IY W hp hd0 hdp hφ r h5 K5 (zY rfl) S9 hfx hb
   | false =>
     refine T.lG (by decide) ?_
     obtain⟨rfl,rfl⟩:=Prod.mk.inj (Option.some.inj hb)
     exact T.some (hφ _ _ g1 S1.row h1 K1)
def Cy (ws : List W) (Rn : Nat) (z : Z) : Option (List (List UInt8) × Bool × Z) := match iC ws z [42] with
 | (true,z1)=>.some ([],false,z1)
 | (false, z1) => match gQ ws z1 [67, 79, 85, 78, 84] with
   | (true,z2)=>.some ([],true,z2)
   | (false,z2)=>(Bw ws Rn z2).bind fun q=>(Bx ws Rn Rn [q.1] q.2).map fun w=>(w.1,false,w.2)
theorem Od {ws:List W}(W:Wf ws){R:Nat}{p d d1:Nat}{st0:St}{φ:St→Prop}{cols':List (List UInt8)}{c':Bool}{z z':Z}
 (hp:p<st0.next) (hd0:d<st0.next) (hdp:d≠p) (hP:PS ws st0 p z) (hg:st0.aS.get d=.some (.cells 34 true [.int .i64 6,.str [],.str [],(.int .i64 0),(.str []),(.int .i64 0),(.bool false),(.int .i64 0),(.str []),AV.aB,AV.aB,AV.aB,AV.aB,.aB,.aB,(.int .i64 0),(.str []),(.int .i64 0),(.bool false),(.int .i64 0),(.str []),AV.aB,AV.aB,AV.aB,AV.aB,.aB,.bool false,.bool false,.str [],.bool false,.int .i64 (-1)])) (hb:Cy ws R z=.some (cols',c',z'))
 (hφ:∀ st1 cv,st1.aS.get d=.some (.cells 34 true [.int .i64 6,.str [],.str [],(.int .i64 0),(.str []),(.int .i64 0),(.bool false),(.int .i64 0),(.str []),AV.aB,AV.aB,AV.aB,AV.aB,.aB,.aB,(.int .i64 0),(.str []),(.int .i64 0),(.bool false),(.int .i64 0),(.str []),AV.aB,AV.aB,AV.aB,AV.aB,cv,.bool c',.bool false,.str [],.bool false,.int .i64 (-1)])→Row 1 cv (cols'.map .str)→PS ws st1 p z'→KP p d st0 st1→φ st1):T φ (gI R (.ref p 0) d1 d st0):=by
 unfold gI
 unfold Cy at hb
 rcases e1:iC ws z [42] with⟨b1,z1⟩
 rw[e1] at hb
 refine T.bind (rV W hP e1 fun st1 h1 k1=>?_)
 have n_k1:=k1.le; (try simp only[aC,aE] at n_k1)
 have g1:st1.aS.get d=.some (.cells 34 true [.int .i64 6,.str [],.str [],(.int .i64 0),(.str []),(.int .i64 0),(.bool false),(.int .i64 0),(.str []),AV.aB,AV.aB,AV.aB,AV.aB,.aB,.aB,(.int .i64 0),(.str []),(.int .i64 0),(.bool false),(.int .i64 0),(.str []),AV.aB,AV.aB,AV.aB,AV.aB,.aB,.bool false,.bool false,.str [],.bool false,.int .i64 (-1)]):=by rw[k1.get (by omega) hdp hdp,hg]
 cases b1 with
 | true =>
   obtain⟨rfl,h2⟩:=Prod.mk.inj (Option.some.inj hb)
   obtain⟨rfl,rfl⟩:=Prod.mk.inj h2
   exact T.jC rfl (T.some (hφ _ _ g1 Row.nil h1 k1.wide))
 | false =>
   refine T.lG (by decide) ?_
   simp only at hb
   rcases e2:gQ ws z1 [67,79,85,78,84] with⟨b2,z2⟩
   rw[e2] at hb
   refine T.bind (qI W h1 e2 fun st2 h2 k2=>?_)
   have n_k2:=k2.le; (try simp only[aC,aE] at n_k2)
   have K2:=k1.trans k2
   have g2:st2.aS.get d=.some (.cells 34 true [.int .i64 6,.str [],.str [],(.int .i64 0),(.str []),(.int .i64 0),(.bool false),(.int .i64 0),(.str []),AV.aB,AV.aB,AV.aB,AV.aB,.aB,.aB,(.int .i64 0),(.str []),(.int .i64 0),(.bool false),(.int .i64 0),(.str []),AV.aB,AV.aB,AV.aB,AV.aB,.aB,.bool false,.bool false,.str [],.bool false,.int .i64 (-1)]):=by rw[k2.get (by omega) hdp hdp,g1]
   cases b2 with
   | true =>
     obtain⟨rfl,h2'⟩:=Prod.mk.inj (Option.some.inj hb)
     obtain⟨rfl,rfl⟩:=Prod.mk.inj h2'
     refine T.jC rfl ?_
     repeat(refine T.step (by simp(disch:=(first | ((repeat(first | rw[aC] | rw[aE] | rw[List.length_cons] | rw[List.length_nil])) <;> omega) | (refine(?_:_∧True).1; constructor; simp only[aM, *]; exact True.intro))) only[bB,g2,Po]; try exact rfl) ?_)
     exact T.some (hφ _ _ (zY rfl) Row.nil (h2.put _ hdp) K2.wide.BC)
   | false =>
     refine T.lG (by decide) ?_
     simp only at hb
     obtain⟨q,hq,hb⟩:=Option.bind_eq_some_iff.1 hb
     obtain⟨s,z3⟩:=q
     obtain⟨w,hw,hb⟩:=Option.map_eq_some_iff.1 hb
     obtain⟨w,z4⟩:=w
     obtain⟨rfl,h2'⟩:=Prod.mk.inj hb
     obtain⟨rfl,rfl⟩:=Prod.mk.inj h2'
     repeat(refine T.step (by simp(disch:=(first | ((repeat(first | rw[aC] | rw[aE] | rw[List.length_cons] | rw[List.length_nil])) <;> omega) | (refine(?_:_∧True).1; constructor; simp only[aM, *]; exact True.intro))) only[bB,g2]; try exact rfl) ?_)
     refine T.bind (Eo W h2 hq fun st3 h3 k3=>?_)
     have n_k3:=k3.le; (try simp only[aC,aE] at n_k3)
     have K3:=K2.trans k3
     have g3:st3.aS.get d=.some (.cells 34 true [.int .i64 6,.str [],.str [],(.int .i64 0),(.str []),(.int .i64 0),(.bool false),(.int .i64 0),(.str []),AV.aB,AV.aB,AV.aB,AV.aB,.aB,.aB,(.int .i64 0),(.str []),(.int .i64 0),(.bool false),(.int .i64 0),(.str []),AV.aB,AV.aB,AV.aB,AV.aB,.aB,.bool false,.bool false,.str [],.bool false,.int .i64 (-1)]):=by rw[k3.get (by omega) hdp hdp,g2]
     repeat(refine T.step (by simp(disch:=(first | ((repeat(first | rw[aC] | rw[aE] | rw[List.length_cons] | rw[List.length_nil])) <;> omega) | (refine(?_:_∧True).1; constructor; simp only[aM, *]; exact True.intro))) only[bB,g3]; try exact rfl) ?_)
     refine T.jC rfl ?_
     refine wS (t:=22) (v:=.str s) h3 (K3.wide (q:=d)) hp (Sl.nil _ 1) (fun id hi=>hi.elim) rfl rfl (by decide) (by decide) fun x' st4 h4 K4 S4 hfx hg4 hn4 hFx=>?_
     have g4:st4.aS.get d=.some (.cells 34 true [.int .i64 6,.str [],.str [],(.int .i64 0),(.str []),(.int .i64 0),(.bool false),(.int .i64 0),(.str []),AV.aB,AV.aB,AV.aB,AV.aB,.aB,.aB,(.int .i64 0),(.str []),(.int .i64 0),(.bool false),(.int .i64 0),(.str []),AV.aB,AV.aB,AV.aB,AV.aB,.aB,.bool false,.bool false,.str [],.bool false,.int .i64 (-1)]):=by rw[hg4 d (by omega) (fun e=>e.elim),g3]
     have ox:=Sl.one S4
     repeat(refine T.step (by simp(disch:=(first | ((repeat(first | rw[aC] | rw[aE] | rw[List.length_cons] | rw[List.length_nil])) <;> omega) | (refine(?_:_∧True).1; constructor; simp only[aM, *]; exact True.intro))) only[bB,g4,Mh ox]; try exact rfl) ?_)
     have S5:=Sl.put (d:=d) (o:=.cells 34 true [.int .i64 6,.str [],.str [],(.int .i64 0),(.str []),(.int .i64 0),(.bool false),(.int .i64 0),(.str []),AV.aB,AV.aB,AV.aB,AV.aB,.aB,.aB,(.int .i64 0),(.str []),(.int .i64 0),(.bool false),(.int .i64 0),(.str []),AV.aB,AV.aB,AV.aB,AV.aB,x',.bool false,.bool false,.str [],.bool false,.int .i64 (-1)]) S4 (fun e=>absurd (hfx d e) (by omega))
     exact T.bind (IY W hp hd0 hdp (fun st5 cv g5 S5 h5 k5=>T.some (hφ _ _ g5 S5 h5 k5)) R (h4.put _ hdp) K4.BC (zY rfl) (nG:=[s]) S5 hfx hw)
def rR (ws:List W)(z:Z):Bool×List UInt8×Z:=match gQ ws z [72,73,83,84,79,82,89] with
 | (true,z1)=>(true,(cJ ws (dE ws z1 6 [40])).1,dE ws (cJ ws (dE ws z1 6 [40])).2 6 [41])
 | (false,z1)=>(false,(cJ ws z1).1,(cJ ws z1).2)
theorem NN {ws:List W}(W:Wf ws){R:Nat}{p d d1:Nat}{st0:St}{φ:St→Prop}{b c:Bool}{cv:AV}{z1:Z}
 (hd0:d<st0.next) (hdp:d≠p) (hP:PS ws st0 p z1) (hg:st0.aS.get d=.some (.cells 34 true [.int .i64 6,.str [],.str [],(.int .i64 0),(.str []),(.int .i64 0),(.bool false),(.int .i64 0),(.str []),AV.aB,AV.aB,AV.aB,AV.aB,.aB,.aB,(.int .i64 0),(.str []),(.int .i64 0),(.bool false),(.int .i64 0),(.str []),AV.aB,AV.aB,AV.aB,AV.aB,cv,.bool c,.bool false,.str [],.bool false,.int .i64 (-1)])) (oc:cv.one=true)
 (hφ:∀ st1,st1.aS.get d=.some (.cells 34 true [.int .i64 6,.str (if b=true then(cJ ws (dE ws z1 6 [40])).1 else(cJ ws z1).1),.str [],(.int .i64 0),(.str []),(.int .i64 0),(.bool false),(.int .i64 0),(.str []),AV.aB,AV.aB,AV.aB,AV.aB,.aB,.aB,(.int .i64 0),(.str []),(.int .i64 0),(.bool false),(.int .i64 0),(.str []),AV.aB,AV.aB,AV.aB,AV.aB,cv,.bool c,.bool b,.str [],.bool false,.int .i64 (-1)])→PS ws st1 p (if b=true then dE ws (cJ ws (dE ws z1 6 [40])).2 6 [41] else(cJ ws z1).2)→KP p d st0 st1→φ st1):T φ (fF R (.ref p 0) d1 d b st0):=by
 unfold fF
 cases b with
 | true =>
   refine T.jC rfl ?_
   refine T.bind (uJ W hP fun st2 h2 k2=>?_)
   refine T.bind (oT W h2 fun st3 h3 k3=>?_)
   have n_k2:=k2.le; (try simp only[aC,aE] at n_k2); have n_k3:=k3.le; (try simp only[aC,aE] at n_k3)
   have g3:st3.aS.get d=.some (.cells 34 true [.int .i64 6,.str [],.str [],(.int .i64 0),(.str []),(.int .i64 0),(.bool false),(.int .i64 0),(.str []),AV.aB,AV.aB,AV.aB,AV.aB,.aB,.aB,(.int .i64 0),(.str []),(.int .i64 0),(.bool false),(.int .i64 0),(.str []),AV.aB,AV.aB,AV.aB,AV.aB,cv,.bool c,.bool false,.str [],.bool false,.int .i64 (-1)]):=by rw[k3.get (by omega) hdp hdp,k2.get (by omega) hdp hdp,hg]
   repeat(refine T.step (by simp(disch:=(first | ((repeat(first | rw[aC] | rw[aE] | rw[List.length_cons] | rw[List.length_nil])) <;> omega) | (refine(?_:_∧True).1; constructor; simp only[aM, *]; exact True.intro))) only[bB,g3]; try exact rfl) ?_)
   refine T.bind (uJ (ws:=ws) (z:=(cJ ws (dE ws z1 6 [40])).2) W (by repeat' (first | exact h3 | refine PS.push ?_ _ | refine PS.put ?_ _ ?_ | ((try simp only[aC,aE]) <;> omega))) fun st4 h4 k4=>?_)
   have n_k4:=k4.le; (try simp only[aC,aE] at n_k4)
   exact T.some (hφ _ (by simp(disch:=(first | ((repeat(first | rw[aC] | rw[aE] | rw[List.length_cons] | rw[List.length_nil])) <;> omega) | (refine(?_:_∧True).1; constructor; simp only[aM, *]; exact True.intro))) only[dH,k4.2.1]; rfl) h4 (((k2.trans k3).wide.BC.BC).trans k4.wide))
 | false =>
   refine T.lG (by decide) ?_
   refine T.bind (oT W hP fun st3 h3 k3=>?_)
   have n_k3:=k3.le; (try simp only[aC,aE] at n_k3)
   have g3:st3.aS.get d=.some (.cells 34 true [.int .i64 6,.str [],.str [],(.int .i64 0),(.str []),(.int .i64 0),(.bool false),(.int .i64 0),(.str []),AV.aB,AV.aB,AV.aB,AV.aB,.aB,.aB,(.int .i64 0),(.str []),(.int .i64 0),(.bool false),(.int .i64 0),(.str []),AV.aB,AV.aB,AV.aB,AV.aB,cv,.bool c,.bool false,.str [],.bool false,.int .i64 (-1)]):=by rw[k3.get (by omega) hdp hdp,hg]
   repeat(refine T.step (by simp(disch:=(first | ((repeat(first | rw[aC] | rw[aE] | rw[List.length_cons] | rw[List.length_nil])) <;> omega) | (refine(?_:_∧True).1; constructor; simp only[aM, *]; exact True.intro))) only[bB,g3]; try exact rfl) ?_)
   exact T.some (hφ _ (zY rfl) (h3.put _ hdp) (k3.wide.BC))
def A6 (ws:List W)(Rn:Nat)(z:Z):Option (List UInt8×Bool×Z):=match gQ ws z [79,82,68,69,82] with
 | (true,z1)=>(Bw ws Rn (dE ws z1 2 [66,89])).bind fun q=>.some (q.1,(gQ ws q.2 [68,69,83,67]).1,(gQ ws q.2 [68,69,83,67]).2)
 | (false,z1)=>.some ([],false,z1)
theorem NU {ws:List W}(W:Wf ws){R:Nat}{p d d1:Nat}{st0:St}{φ:St→Prop}{t:List UInt8}{b c h:Bool}{cv wk wn:AV}{w:Ex}{z z1 z':Z}{o:List UInt8}{dd:Bool}
 (hd0:d<st0.next) (hdp:d≠p) (hP:PS ws st0 p z1) (hg:st0.aS.get d=.some (.cells 34 true [.int .i64 6,.str t,.str [],(.int .i64 0),(.str []),(.int .i64 0),(.bool false),(.int .i64 0),(.str []),AV.aB,AV.aB,AV.aB,AV.aB,.aB,.aB,.int .i64 w.k,.str w.s,.int .i64 w.v.k,.bool w.v.b,.int .i64 w.v.n,.str w.v.s,.aB,.aB,wk,wn,cv,.bool c,.bool h,.str [],.bool false,.int .i64 (-1)])) (oc:cv.one=true) (o1:wk.one=true) (o2:wn.one=true)
 (hz:gQ ws z [79,82,68,69,82]=(b,z1)) (hb:A6 ws R z=.some (o,dd,z'))
 (hφ:∀ st1,st1.aS.get d=.some (.cells 34 true [.int .i64 6,.str t,.str [],(.int .i64 0),(.str []),(.int .i64 0),(.bool false),(.int .i64 0),(.str []),AV.aB,AV.aB,AV.aB,AV.aB,.aB,.aB,.int .i64 w.k,.str w.s,.int .i64 w.v.k,.bool w.v.b,.int .i64 w.v.n,.str w.v.s,.aB,.aB,wk,wn,cv,.bool c,.bool h,.str o,.bool dd,.int .i64 (-1)])→PS ws st1 p z'→KP p d st0 st1→φ st1):T φ (eR R (.ref p 0) d1 d b st0):=by
 unfold eR
 unfold A6 at hb
 rw[hz] at hb
 cases b with
 | true =>
   obtain⟨q,hq,hb⟩:=Option.bind_eq_some_iff.1 hb
   obtain⟨s,z3⟩:=q
   obtain⟨rfl,h2'⟩:=Prod.mk.inj (Option.some.inj hb)
   obtain⟨rfl,rfl⟩:=Prod.mk.inj h2'
   refine T.jC rfl ?_
   refine T.bind (qD W hP fun st2 h2 k2=>?_)
   refine T.bind (Eo W h2 hq fun st3 h3 k3=>?_)
   have n_k2:=k2.le; (try simp only[aC,aE] at n_k2); have n_k3:=k3.le; (try simp only[aC,aE] at n_k3)
   have g3:st3.aS.get d=.some (.cells 34 true [.int .i64 6,.str t,.str [],(.int .i64 0),(.str []),(.int .i64 0),(.bool false),(.int .i64 0),(.str []),AV.aB,AV.aB,AV.aB,AV.aB,.aB,.aB,.int .i64 w.k,.str w.s,.int .i64 w.v.k,.bool w.v.b,.int .i64 w.v.n,.str w.v.s,.aB,.aB,wk,wn,cv,.bool c,.bool h,.str [],.bool false,.int .i64 (-1)]):=by rw[k3.get (by omega) hdp hdp,k2.get (by omega) hdp hdp,hg]
   repeat(refine T.step (by simp(disch:=(first | ((repeat(first | rw[aC] | rw[aE] | rw[List.length_cons] | rw[List.length_nil])) <;> omega) | (refine(?_:_∧True).1; constructor; simp only[aM, *]; exact True.intro))) only[bB,g3]; try exact rfl) ?_)
   rcases e4:gQ ws z3 [68,69,83,67] with⟨b4,z4⟩
   rw[e4] at hφ
   refine T.bind (qI (ws:=ws) (z:=z3) W (by repeat' (first | exact h3 | refine PS.push ?_ _ | refine PS.put ?_ _ ?_ | ((try simp only[aC,aE]) <;> omega))) e4 fun st4 h4 k4=>?_)
   have n_k4:=k4.le; (try simp only[aC,aE] at n_k4)
   repeat(refine T.step (by simp(disch:=(first | ((repeat(first | rw[aC] | rw[aE] | rw[List.length_cons] | rw[List.length_nil])) <;> omega) | (refine(?_:_∧True).1; constructor; simp only[aM, *]; exact True.intro))) only[bB,k4.2.1,Po]; try exact rfl) ?_)
   exact T.some (hφ _ (zY rfl) (h4.put _ hdp) (((k2.trans k3).wide.BC.trans k4.wide).BC))
 | false =>
   obtain⟨rfl,h2'⟩:=Prod.mk.inj (Option.some.inj hb)
   obtain⟨rfl,rfl⟩:=Prod.mk.inj h2'
   exact T.lG (by decide) (T.some (hφ _ hg hP KP.refl))
def Ck (ws:List W)(z:Z):Int×Z:=match gQ ws z [76,73,77,73,84] with
 | (true,z1)=>B6 ws z1
 | (false,z1)=>(-1,z1)
theorem PR {ws:List W}(W:Wf ws){R:Nat}{p d d1:Nat}{st0:St}{φ:St→Prop}{t o:List UInt8}{b c h dd:Bool}{cv wk wn:AV}{w:Ex}{z z1 z':Z}{l:Int}
 (hd0:d<st0.next) (hdp:d≠p) (hP:PS ws st0 p z1) (hO:Old st0) (hg:st0.aS.get d=.some (.cells 34 true [.int .i64 6,.str t,.str [],(.int .i64 0),(.str []),(.int .i64 0),(.bool false),(.int .i64 0),(.str []),AV.aB,AV.aB,AV.aB,AV.aB,.aB,.aB,.int .i64 w.k,.str w.s,.int .i64 w.v.k,.bool w.v.b,.int .i64 w.v.n,.str w.v.s,.aB,.aB,wk,wn,cv,.bool c,.bool h,.str o,.bool dd,.int .i64 (-1)])) (oc:cv.one=true) (o1:wk.one=true) (o2:wn.one=true)
 (hz:gQ ws z [76,73,77,73,84]=(b,z1)) (hb:Ck ws z=(l,z'))
 (hφ:∀ st1,st1.aS.get d=.some (.cells 34 true [.int .i64 6,.str t,.str [],(.int .i64 0),(.str []),(.int .i64 0),(.bool false),(.int .i64 0),(.str []),AV.aB,AV.aB,AV.aB,AV.aB,.aB,.aB,.int .i64 w.k,.str w.s,.int .i64 w.v.k,.bool w.v.b,.int .i64 w.v.n,.str w.v.s,.aB,.aB,wk,wn,cv,.bool c,.bool h,.str o,.bool dd,.int .i64 l])→PS ws st1 p z'→KP p d st0 st1→φ st1):T φ (eO R (.ref p 0) d1 d b st0):=by
 unfold eO
 unfold Ck at hb
 rw[hz] at hb
 cases b with
 | true =>
   refine T.jC rfl ?_
   refine T.bind (N2 W hP hO hb fun st2 h2 k2=>?_)
   have n_k2:=k2.le; (try simp only[aC,aE] at n_k2)
   have g2:st2.aS.get d=.some (.cells 34 true [.int .i64 6,.str t,.str [],(.int .i64 0),(.str []),(.int .i64 0),(.bool false),(.int .i64 0),(.str []),AV.aB,AV.aB,AV.aB,AV.aB,.aB,.aB,.int .i64 w.k,.str w.s,.int .i64 w.v.k,.bool w.v.b,.int .i64 w.v.n,.str w.v.s,.aB,.aB,wk,wn,cv,.bool c,.bool h,.str o,.bool dd,.int .i64 (-1)]):=by rw[k2.get (by omega) hdp hdp,hg]
   repeat(refine T.step (by simp(disch:=(first | ((repeat(first | rw[aC] | rw[aE] | rw[List.length_cons] | rw[List.length_nil])) <;> omega) | (refine(?_:_∧True).1; constructor; simp only[aM, *]; exact True.intro))) only[bB,g2]; try exact rfl) ?_)
   exact T.some (hφ _ (zY rfl) (h2.put _ hdp) (k2.wide.BC))
 | false =>
   obtain⟨rfl,rfl⟩:=Prod.mk.inj hb
   exact T.lG (by decide) (T.some (hφ _ hg hP KP.refl))
def wD (ws : List W) (Rn : Nat) (z : Z) : Option (Sm × Z) :=
 (Cy ws Rn z).bind fun q=>(wZ ws Rn (rR ws (dE ws q.2.2 2 [70,82,79,77])).2.2).bind fun w=>(A6 ws Rn w.2).bind fun o=>
  .some (⟨6,(rR ws (dE ws q.2.2 2 [70,82,79,77])).2.1,[],E0,[],[],w.1,q.1,q.2.1,(rR ws (dE ws q.2.2 2 [70,82,79,77])).1,o.1,o.2.1,(Ck ws o.2.2).1⟩,(Ck ws o.2.2).2)
theorem Lw {ws:List W}(W:Wf ws){R:Nat}{st:St}{p:Nat}{z z':Z}{m:Sm}{φ:Int×List UInt8×List UInt8×Int×List UInt8×Int×Bool×Int×List UInt8×AV×AV×AV×AV×AV×AV×Int×List UInt8×Int×Bool×Int×List UInt8×AV×AV×AV×AV×AV×Bool×Bool×List UInt8×Bool×Int×St→Prop}
 (hP:PS ws st p z) (hO:Old st) (hb:wD ws R z=.some (m,z')) (hφ:SP ws st p m z' φ):T φ (jM R (.ref p 0) st):=by
 have hp:=hP.lt
 unfold jM
 unfold wD at hb
 obtain⟨q,hq,hb⟩:=Option.bind_eq_some_iff.1 hb
 obtain⟨nG,c,z1⟩:=q
 obtain⟨w,hw,hb⟩:=Option.bind_eq_some_iff.1 hb
 obtain⟨w,z4⟩:=w
 obtain⟨o,ho,hb⟩:=Option.bind_eq_some_iff.1 hb
 obtain⟨o,dd,z5⟩:=o
 obtain⟨rfl,rfl⟩:=Prod.mk.inj (Option.some.inj hb)
 simp only at hw ho hφ
 repeat(refine T.step (by simp(disch:=(first | ((repeat(first | rw[aC] | rw[aE] | rw[List.length_cons] | rw[List.length_nil])) <;> omega) | (refine(?_:_∧True).1; constructor; simp only[aM, *]; exact True.intro))) only[bB]; try exact rfl) ?_)
 have h1:PS ws (((st.push (.cells 34 true [.int .i64 0,.str [],.str [],(.int .i64 0),(.str []),(.int .i64 0),(.bool false),(.int .i64 0),(.str []),AV.aB,AV.aB,AV.aB,AV.aB,.aB,.aB,(.int .i64 0),(.str []),(.int .i64 0),(.bool false),(.int .i64 0),(.str []),AV.aB,AV.aB,AV.aB,AV.aB,.aB,.bool false,.bool false,.str [],.bool false,.int .i64 0])).push (.cells 34 true [.int .i64 0,.str [],.str [],(.int .i64 0),(.str []),(.int .i64 0),(.bool false),(.int .i64 0),(.str []),AV.aB,AV.aB,AV.aB,AV.aB,.aB,.aB,(.int .i64 0),(.str []),(.int .i64 0),(.bool false),(.int .i64 0),(.str []),AV.aB,AV.aB,AV.aB,AV.aB,.aB,.bool false,.bool false,.str [],.bool false,.int .i64 0])).put (st.next+1) (.cells 34 true [.int .i64 6,.str [],.str [],(.int .i64 0),(.str []),(.int .i64 0),(.bool false),(.int .i64 0),(.str []),AV.aB,AV.aB,AV.aB,AV.aB,.aB,.aB,(.int .i64 0),(.str []),(.int .i64 0),(.bool false),(.int .i64 0),(.str []),AV.aB,AV.aB,AV.aB,AV.aB,.aB,.bool false,.bool false,.str [],.bool false,.int .i64 (-1)])) p z:=(by repeat' (first | exact hP | refine PS.push ?_ _ | refine PS.put ?_ _ ?_ | ((try simp only[aC,aE]) <;> omega)))
 have K1:KP p p st (((st.push (.cells 34 true [.int .i64 0,.str [],.str [],(.int .i64 0),(.str []),(.int .i64 0),(.bool false),(.int .i64 0),(.str []),AV.aB,AV.aB,AV.aB,AV.aB,.aB,.aB,(.int .i64 0),(.str []),(.int .i64 0),(.bool false),(.int .i64 0),(.str []),AV.aB,AV.aB,AV.aB,AV.aB,.aB,.bool false,.bool false,.str [],.bool false,.int .i64 0])).push (.cells 34 true [.int .i64 0,.str [],.str [],(.int .i64 0),(.str []),(.int .i64 0),(.bool false),(.int .i64 0),(.str []),AV.aB,AV.aB,AV.aB,AV.aB,.aB,.aB,(.int .i64 0),(.str []),(.int .i64 0),(.bool false),(.int .i64 0),(.str []),AV.aB,AV.aB,AV.aB,AV.aB,.aB,.bool false,.bool false,.str [],.bool false,.int .i64 0])).put (st.next+1) (.cells 34 true [.int .i64 6,.str [],.str [],(.int .i64 0),(.str []),(.int .i64 0),(.bool false),(.int .i64 0),(.str []),AV.aB,AV.aB,AV.aB,AV.aB,.aB,.aB,(.int .i64 0),(.str []),(.int .i64 0),(.bool false),(.int .i64 0),(.str []),AV.aB,AV.aB,AV.aB,AV.aB,.aB,.bool false,.bool false,.str [],.bool false,.int .i64 (-1)])):=(by repeat' (first | exact KP.refl | exact KP.refl | refine KP.eI ?_ | refine KP.loc ?_ ?_ | exact Or.inl rfl | exact Or.inr (Or.inl rfl) | ((try simp only[aC,aE]) <;> omega)))
 refine T.bind (Od (d:=st.next+1) W (by((try simp only[aC,aE]) <;> omega)) (by((try simp only[aC,aE]) <;> omega)) (by omega) h1 (zY rfl) hq fun st2 cv g2 hcv h2 k2=>?_)
 have oc:=Row.one hcv
 have n_k2:=k2.le; (try simp only[aC,aE] at n_k2)
 have gr2:st2.aS.get st.next=.some (.cells 34 true [.int .i64 0,.str [],.str [],(.int .i64 0),(.str []),(.int .i64 0),(.bool false),(.int .i64 0),(.str []),AV.aB,AV.aB,AV.aB,AV.aB,.aB,.aB,(.int .i64 0),(.str []),(.int .i64 0),(.bool false),(.int .i64 0),(.str []),AV.aB,AV.aB,AV.aB,AV.aB,.aB,.bool false,.bool false,.str [],.bool false,.int .i64 0]):=by simp(disch:=(first | ((repeat(first | rw[aC] | rw[aE] | rw[List.length_cons] | rw[List.length_nil])) <;> omega) | (refine(?_:_∧True).1; constructor; simp only[aM, *]; exact True.intro))) only[dH,k2.2.1]
 have K2:KP p p st st2:=K1.GV k2 (by omega)
 refine T.bind (qD W h2 fun st3 h3 k3=>?_)
 have n_k3:=k3.le; (try simp only[aC,aE] at n_k3)
 have g3:=(k3.get (show st.next+1<st2.next by omega) (by omega) (by omega)).trans g2
 have gr3:=(k3.get (show st.next<st2.next by omega) (by omega) (by omega)).trans gr2
 rcases e4:gQ ws (dE ws z1 2 [70,82,79,77]) [72,73,83,84,79,82,89] with⟨b4,z2⟩
 refine T.bind (qI W h3 e4 fun st4 h4 k4=>?_)
 have n_k4:=k4.le; (try simp only[aC,aE] at n_k4)
 have g4:=(k4.get (show st.next+1<st3.next by omega) (by omega) (by omega)).trans g3
 have gr4:=(k4.get (show st.next<st3.next by omega) (by omega) (by omega)).trans gr3
 have K4:=(K2.trans k3).trans k4
 refine T.bind (NN (d:=st.next+1) W (by omega) (by omega) h4 g4 oc fun st5 g5 h5 k5=>?_)
 have n_k5:=k5.le; (try simp only[aC,aE] at n_k5)
 have gr5:=(k5.get (show st.next<st4.next by omega) (by omega) (by omega)).trans gr4
 have K5:KP p p st st5:=K4.GV k5 (by omega)
 have et:rR ws (dE ws z1 2 [70,82,79,77])=(b4,(if b4=true then(cJ ws (dE ws z2 6 [40])).1 else(cJ ws z2).1),(if b4=true then dE ws (cJ ws (dE ws z2 6 [40])).2 6 [41] else(cJ ws z2).2)):=by
  unfold rR
  rw[e4]
  cases b4 <;> rfl
 rw[et] at hw hφ
 refine T.bind (Fx W h5 hw fun st6 wk wn hx h6 k6=>?_)
 have n_k6:=k6.le; (try simp only[aC,aE] at n_k6)
 obtain⟨o1,o2⟩:=hx.one
 have g6:=(k6.get (show st.next+1<st5.next by omega) (by omega) (by omega)).trans g5
 have gr6:=(k6.get (show st.next<st5.next by omega) (by omega) (by omega)).trans gr5
 have K6:=K5.trans k6
 repeat(refine T.step (by simp(disch:=(first | ((repeat(first | rw[aC] | rw[aE] | rw[List.length_cons] | rw[List.length_nil])) <;> omega) | (refine(?_:_∧True).1; constructor; simp only[aM, *]; exact True.intro))) only[bB,g6,F3,dK]; try exact rfl) ?_)
 have h7:=h6.put (id:=st.next+1) (.cells 34 true [.int .i64 6,.str (if b4=true then(cJ ws (dE ws z2 6 [40])).1 else(cJ ws z2).1),.str [],(.int .i64 0),(.str []),(.int .i64 0),(.bool false),(.int .i64 0),(.str []),AV.aB,AV.aB,AV.aB,AV.aB,.aB,.aB,.int .i64 w.k,.str w.s,.int .i64 w.v.k,.bool w.v.b,.int .i64 w.v.n,.str w.v.s,.aB,.aB,wk,wn,cv,.bool c,.bool b4,.str [],.bool false,.int .i64 (-1)]) (by omega)
 have K7:KP p p st (st6.put (st.next+1) (.cells 34 true [.int .i64 6,.str (if b4=true then(cJ ws (dE ws z2 6 [40])).1 else(cJ ws z2).1),.str [],(.int .i64 0),(.str []),(.int .i64 0),(.bool false),(.int .i64 0),(.str []),AV.aB,AV.aB,AV.aB,AV.aB,.aB,.aB,.int .i64 w.k,.str w.s,.int .i64 w.v.k,.bool w.v.b,.int .i64 w.v.n,.str w.v.s,.aB,.aB,wk,wn,cv,.bool c,.bool b4,.str [],.bool false,.int .i64 (-1)])):=(by repeat' (first | exact K6 | exact KP.refl | refine KP.eI ?_ | refine KP.loc ?_ ?_ | exact Or.inl rfl | exact Or.inr (Or.inl rfl) | ((try simp only[aC,aE]) <;> omega)))
 rcases e8:gQ ws z4 [79,82,68,69,82] with⟨b8,z8⟩
 refine T.bind (qI W h7 e8 fun st8 h8 k8=>?_)
 have n_k8:=k8.le; (try simp only[aC,aE] at n_k8)
 have g8:=(k8.get (show st.next+1<st6.next by omega) (by omega) (by omega)).trans (zY rfl)
 have gr8:st8.aS.get st.next=.some (.cells 34 true [.int .i64 0,.str [],.str [],(.int .i64 0),(.str []),(.int .i64 0),(.bool false),(.int .i64 0),(.str []),AV.aB,AV.aB,AV.aB,AV.aB,.aB,.aB,(.int .i64 0),(.str []),(.int .i64 0),(.bool false),(.int .i64 0),(.str []),AV.aB,AV.aB,AV.aB,AV.aB,.aB,.bool false,.bool false,.str [],.bool false,.int .i64 0]):=by simp(disch:=(first | ((repeat(first | rw[aC] | rw[aE] | rw[List.length_cons] | rw[List.length_nil])) <;> omega) | (refine(?_:_∧True).1; constructor; simp only[aM, *]; exact True.intro))) only[dH,k8.2.1,gr6]
 have K8:=K7.trans k8
 refine T.bind (NU (d:=st.next+1) (w:=w) W (by omega) (by omega) h8 g8 oc o1 o2 e8 ho fun st9 g9 h9 k9=>?_)
 have n_k9:=k9.le; (try simp only[aC,aE] at n_k9)
 have gr9:=(k9.get (show st.next<st8.next by omega) (by omega) (by omega)).trans gr8
 have K9:KP p p st st9:=K8.GV k9 (by omega)
 rcases e10:gQ ws z5 [76,73,77,73,84] with⟨b10,z10⟩
 refine T.bind (qI W h9 e10 fun st10 h10 k10=>?_)
 have n_k10:=k10.le; (try simp only[aC,aE] at n_k10)
 have g10:=(k10.get (show st.next+1<st9.next by omega) (by omega) (by omega)).trans g9
 have gr10:=(k10.get (show st.next<st9.next by omega) (by omega) (by omega)).trans gr9
 have K10:=K9.trans k10
 refine T.bind (PR (d:=st.next+1) (w:=w) W (by omega) (by omega) h10 (hO.BP K10) g10 oc o1 o2 e10 (l:=(Ck ws z5).1) (z':=(Ck ws z5).2) rfl fun st11 g11 Mf k11=>?_)
 have n_k11:=k11.le; (try simp only[aC,aE] at n_k11)
 have gr11:=(k11.get (show st.next<st10.next by omega) (by omega) (by omega)).trans gr10
 have K11:KP p p st st11:=K10.GV k11 (by omega)
 repeat(refine T.step (by simp(disch:=(first | ((repeat(first | rw[aC] | rw[aE] | rw[List.length_cons] | rw[List.length_nil])) <;> omega) | (refine(?_:_∧True).1; constructor; simp only[aM, *]; exact True.intro))) only[bB,g11,gr11]; try exact rfl) ?_)
 exact T.some (hφ _ _ _ _ _ _ _ _ ⟨RX.e0,Row.nil,BV.Kg,hx,hcv⟩ (by repeat' (first | exact Mf | refine PS.push ?_ _ | refine PS.put ?_ _ ?_ | ((try simp only[aC,aE]) <;> omega))) (by repeat' (first | exact K11 | exact KP.refl | refine KP.eI ?_ | refine KP.loc ?_ ?_ | exact Or.inl rfl | exact Or.inr (Or.inl rfl) | ((try simp only[aC,aE]) <;> omega))))
def Cs (ws : List W) (Rn : Nat) (z : Z) : Option (Sm × Z) := match gQ ws z [67, 82, 69, 65, 84, 69] with
 | (true,z1)=>.some (uF ws z1)
 | (false, z1) => match gQ ws z1 [73, 78, 83, 69, 82, 84] with
   | (true,z2)=>(D0 ws Rn (dE ws (cJ ws (dE ws z2 2 [73,78,84,79])).2 2 [86,65,76,85,69])).bind fun q=>.some (⟨3,(cJ ws (dE ws z2 2 [73,78,84,79])).1,[],q.1,[],[],E0,[],false,false,[],false,-1⟩,q.2)
   | (false, z2) => match gQ ws z2 [85, 80, 68, 65, 84, 69] with
     | (true,z3)=>wB ws Rn z3
     | (false, z3) => match gQ ws z3 [68, 69, 76, 69, 84, 69] with
       | (true,z4)=>(wZ ws Rn (cJ ws (dE ws z4 2 [70,82,79,77])).2).bind fun q=>.some (⟨5,(cJ ws (dE ws z4 2 [70,82,79,77])).1,[],E0,[],[],q.1,[],false,false,[],false,-1⟩,q.2)
       | (false, z4) => match gQ ws z4 [83, 69, 76, 69, 67, 84] with
         | (true,z5)=>wD ws Rn z5
         | (false,z5)=>.some (Q3,lP z5 120)
theorem Of {ws : List W} (W : Wf ws) {R : Nat} {st : St} {p : Nat} {z z' : Z} {m : Sm} {φ : Int × List UInt8 × List UInt8 × Int × List UInt8 × Int × Bool × Int × List UInt8 × AV × AV × AV × AV × AV × AV × Int × List UInt8 × Int × Bool × Int × List UInt8 × AV × AV × AV × AV × AV × Bool × Bool × List UInt8 × Bool × Int × St → Prop}
 (hP:PS ws st p z) (hO:Old st) (hb:Cs ws R z=.some (m,z')) (hφ:SP ws st p m z' φ):T φ (kQ R (.ref p 0) st):=by
 have hp:=hP.lt
 unfold kQ
 unfold Cs at hb
 rcases e1:gQ ws z [67,82,69,65,84,69] with⟨b1,z1⟩
 rw[e1] at hb
 refine T.bind (qI W (by repeat' (first | exact hP | refine PS.push ?_ _ | refine PS.put ?_ _ ?_ | ((try simp only[aC,aE]) <;> omega))) e1 fun st1 h1 k1=>?_)
 have n_k1:=k1.le; (try simp only[aC,aE] at n_k1)
 have K1:KP p p st st1:=(by repeat' (first | exact KP.trans (by repeat' (first | exact KP.refl | exact KP.refl | refine KP.eI ?_ | refine KP.loc ?_ ?_ | exact Or.inl rfl | exact Or.inr (Or.inl rfl) | ((try simp only[aC,aE]) <;> omega))) k1 | refine KP.eI ?_ | refine KP.loc ?_ ?_ | exact Or.inl rfl | exact Or.inr (Or.inl rfl) | ((try simp only[aC,aE]) <;> omega)))
 have gr1:st1.aS.get st.next=.some (.cells 34 true [.int .i64 0,.str [],.str [],(.int .i64 0),(.str []),(.int .i64 0),(.bool false),(.int .i64 0),(.str []),AV.aB,AV.aB,AV.aB,AV.aB,.aB,.aB,(.int .i64 0),(.str []),(.int .i64 0),(.bool false),(.int .i64 0),(.str []),AV.aB,AV.aB,AV.aB,AV.aB,.aB,.bool false,.bool false,.str [],.bool false,.int .i64 0]):=by simp(disch:=(first | ((repeat(first | rw[aC] | rw[aE] | rw[List.length_cons] | rw[List.length_nil])) <;> omega) | (refine(?_:_∧True).1; constructor; simp only[aM, *]; exact True.intro))) only[dH,k1.2.1]
 cases b1 with
 | true =>
   refine T.jC rfl ?_
   refine T.bind (Lb W h1 (m:=m) (z':=z') (Option.some.inj hb) fun st2 vk vn nv ev wk wn cv hm h2 k2=>?_)
   have n_k2:=k2.le; (try simp only[aC,aE] at n_k2)
   obtain⟨o1,o2⟩:=hm.v.one
   obtain⟨o3,o4⟩:=hm.w.one
   have o5:=Row.one hm.names
   have o6:=Row.one hm.nG
   obtain⟨kcs,hke,hkr⟩:=hm.exprs
   have o7:=Row.one hke
   have K2':=K1.trans k2
   repeat(refine T.step (by simp(disch:=(first | ((repeat(first | rw[aC] | rw[aE] | rw[List.length_cons] | rw[List.length_nil])) <;> omega) | (refine(?_:_∧True).1; constructor; simp only[aM, *]; exact True.intro))) only[bB,k2.2.1,gr1]; try exact rfl) ?_)
   exact T.some (hφ _ _ _ _ _ _ _ _ hm (by repeat' (first | exact h2 | refine PS.push ?_ _ | refine PS.put ?_ _ ?_ | ((try simp only[aC,aE]) <;> omega))) (by repeat' (first | exact K2' | exact KP.refl | refine KP.eI ?_ | refine KP.loc ?_ ?_ | exact Or.inl rfl | exact Or.inr (Or.inl rfl) | ((try simp only[aC,aE]) <;> omega))))
 | false =>
   refine T.lG (by decide) ?_
   simp only at hb
   rcases e2:gQ ws z1 [73,78,83,69,82,84] with⟨b2,z2⟩
   rw[e2] at hb
   refine T.bind (qI W h1 e2 fun st3 h3 k3=>?_)
   have n_k3:=k3.le; (try simp only[aC,aE] at n_k3)
   have K3:=K1.trans k3
   have gr3:=(k3.get (show st.next<st1.next by omega) (by omega) (by omega)).trans gr1
   cases b2 with
   | true =>
     obtain⟨q,hq,hb⟩:=Option.bind_eq_some_iff.1 hb
     obtain⟨v,z5⟩:=q
     obtain⟨rfl,rfl⟩:=Prod.mk.inj (Option.some.inj hb)
     refine T.jC rfl ?_
     refine T.bind (qD W h3 fun st4 h4 k4=>?_)
     refine T.bind (oT W h4 fun st5 h5 k5=>?_)
     have n_k4:=k4.le; (try simp only[aC,aE] at n_k4); have n_k5:=k5.le; (try simp only[aC,aE] at n_k5)
     have K5:=(K3.trans k4).trans k5
     have hp5:=h5.lt
     repeat(refine T.step (by simp(disch:=(first | ((repeat(first | rw[aC] | rw[aE] | rw[List.length_cons] | rw[List.length_nil])) <;> omega) | (refine(?_:_∧True).1; constructor; simp only[aM, *]; exact True.intro))) only[bB]; try exact rfl) ?_)
     refine T.bind (qD (ws:=ws) (z:=(cJ ws (dE ws z2 2 [73,78,84,79])).2) W (by repeat' (first | exact h5 | refine PS.push ?_ _ | refine PS.put ?_ _ ?_ | ((try simp only[aC,aE]) <;> omega))) fun st6 h6 k6=>?_)
     have n_k6:=k6.le; (try simp only[aC,aE] at n_k6)
     have K6:KP p p st st6:=(by repeat' (first | exact KP.trans (by repeat' (first | exact K5 | exact KP.refl | refine KP.eI ?_ | refine KP.loc ?_ ?_ | exact Or.inl rfl | exact Or.inr (Or.inl rfl) | ((try simp only[aC,aE]) <;> omega))) k6 | refine KP.eI ?_ | refine KP.loc ?_ ?_ | exact Or.inl rfl | exact Or.inr (Or.inl rfl) | ((try simp only[aC,aE]) <;> omega)))
     refine T.bind (Gj W h6 hq fun st7 vk vn hx h7 k7=>?_)
     have n_k7:=k7.le; (try simp only[aC,aE] at n_k7)
     have K7:=K6.trans k7
     obtain⟨o1,o2⟩:=hx.one
     repeat(refine T.step (by simp(disch:=(first | ((repeat(first | rw[aC] | rw[aE] | rw[List.length_cons] | rw[List.length_nil])) <;> omega) | (refine(?_:_∧True).1; constructor; simp only[aM, *]; exact True.intro))) only[bB,k7.2.1,k6.2.1,k5.2.1,k4.2.1,gr3,F3,dK]; try exact rfl) ?_)
     exact T.some (hφ _ _ _ _ _ _ _ _ ⟨hx,Row.nil,BV.Kg,RX.e0,Row.nil⟩ (by repeat' (first | exact h7 | refine PS.push ?_ _ | refine PS.put ?_ _ ?_ | ((try simp only[aC,aE]) <;> omega))) (by repeat' (first | exact K7 | exact KP.refl | refine KP.eI ?_ | refine KP.loc ?_ ?_ | exact Or.inl rfl | exact Or.inr (Or.inl rfl) | ((try simp only[aC,aE]) <;> omega))))
   | false =>
     refine T.lG (by decide) ?_
     simp only at hb
     rcases e4:gQ ws z2 [85,80,68,65,84,69] with⟨b4,z3⟩
     rw[e4] at hb
     refine T.bind (qI W h3 e4 fun st4 h4 k4=>?_)
     have n_k4:=k4.le; (try simp only[aC,aE] at n_k4)
     have K4:=K3.trans k4
     have gr4:=(k4.get (show st.next<st3.next by omega) (by omega) (by omega)).trans gr3
     cases b4 with
     | true =>
       refine T.jC rfl ?_
       refine T.bind (ML W h4 (m:=m) (z':=z') hb fun st2 vk vn nv ev wk wn cv hm h2 k2=>?_)
       have n_k2:=k2.le; (try simp only[aC,aE] at n_k2)
       obtain⟨o1,o2⟩:=hm.v.one
       obtain⟨o3,o4⟩:=hm.w.one
       have o5:=Row.one hm.names
       have o6:=Row.one hm.nG
       obtain⟨kcs,hke,hkr⟩:=hm.exprs
       have o7:=Row.one hke
       have K2':=K4.trans k2
       repeat(refine T.step (by simp(disch:=(first | ((repeat(first | rw[aC] | rw[aE] | rw[List.length_cons] | rw[List.length_nil])) <;> omega) | (refine(?_:_∧True).1; constructor; simp only[aM, *]; exact True.intro))) only[bB,k2.2.1,gr4]; try exact rfl) ?_)
       exact T.some (hφ _ _ _ _ _ _ _ _ hm (by repeat' (first | exact h2 | refine PS.push ?_ _ | refine PS.put ?_ _ ?_ | ((try simp only[aC,aE]) <;> omega))) (by repeat' (first | exact K2' | exact KP.refl | refine KP.eI ?_ | refine KP.loc ?_ ?_ | exact Or.inl rfl | exact Or.inr (Or.inl rfl) | ((try simp only[aC,aE]) <;> omega))))
     | false =>
       refine T.lG (by decide) ?_
       simp only at hb
       rcases e5:gQ ws z3 [68,69,76,69,84,69] with⟨b5,z4⟩
       rw[e5] at hb
       refine T.bind (qI W h4 e5 fun st5 h5 k5=>?_)
       have n_k5:=k5.le; (try simp only[aC,aE] at n_k5)
       have K5:=K4.trans k5
       have gr5:=(k5.get (show st.next<st4.next by omega) (by omega) (by omega)).trans gr4
       cases b5 with
       | true =>
         obtain⟨q,hq,hb⟩:=Option.bind_eq_some_iff.1 hb
         obtain⟨w,z5⟩:=q
         obtain⟨rfl,rfl⟩:=Prod.mk.inj (Option.some.inj hb)
         refine T.jC rfl ?_
         refine T.bind (qD W h5 fun st6 h6 k6=>?_)
         refine T.bind (oT W h6 fun st7 h7 k7=>?_)
         have n_k6:=k6.le; (try simp only[aC,aE] at n_k6); have n_k7:=k7.le; (try simp only[aC,aE] at n_k7)
         have K7:=(K5.trans k6).trans k7
         have hp7:=h7.lt
         repeat(refine T.step (by simp(disch:=(first | ((repeat(first | rw[aC] | rw[aE] | rw[List.length_cons] | rw[List.length_nil])) <;> omega) | (refine(?_:_∧True).1; constructor; simp only[aM, *]; exact True.intro))) only[bB]; try exact rfl) ?_)
         refine T.bind (Fx (ws:=ws) (z:=(cJ ws (dE ws z4 2 [70,82,79,77])).2) W (by repeat' (first | exact h7 | refine PS.push ?_ _ | refine PS.put ?_ _ ?_ | ((try simp only[aC,aE]) <;> omega))) hq fun st8 vk vn hx h8 k8=>?_)
         have n_k8:=k8.le; (try simp only[aC,aE] at n_k8)
         have K8:KP p p st st8:=(by repeat' (first | exact KP.trans (by repeat' (first | exact K7 | exact KP.refl | refine KP.eI ?_ | refine KP.loc ?_ ?_ | exact Or.inl rfl | exact Or.inr (Or.inl rfl) | ((try simp only[aC,aE]) <;> omega))) k8 | refine KP.eI ?_ | refine KP.loc ?_ ?_ | exact Or.inl rfl | exact Or.inr (Or.inl rfl) | ((try simp only[aC,aE]) <;> omega)))
         obtain⟨o1,o2⟩:=hx.one
         repeat(refine T.step (by simp(disch:=(first | ((repeat(first | rw[aC] | rw[aE] | rw[List.length_cons] | rw[List.length_nil])) <;> omega) | (refine(?_:_∧True).1; constructor; simp only[aM, *]; exact True.intro))) only[bB,k8.2.1,k7.2.1,k6.2.1,gr5,F3,dK]; try exact rfl) ?_)
         exact T.some (hφ _ _ _ _ _ _ _ _ ⟨RX.e0,Row.nil,BV.Kg,hx,Row.nil⟩ (by repeat' (first | exact h8 | refine PS.push ?_ _ | refine PS.put ?_ _ ?_ | ((try simp only[aC,aE]) <;> omega))) (by repeat' (first | exact K8 | exact KP.refl | refine KP.eI ?_ | refine KP.loc ?_ ?_ | exact Or.inl rfl | exact Or.inr (Or.inl rfl) | ((try simp only[aC,aE]) <;> omega))))
       | false =>
         refine T.lG (by decide) ?_
         simp only at hb
         rcases e6:gQ ws z4 [83,69,76,69,67,84] with⟨b6,z5⟩
         rw[e6] at hb
         refine T.bind (qI W h5 e6 fun st6 h6 k6=>?_)
         have n_k6:=k6.le; (try simp only[aC,aE] at n_k6)
         have K6:=K5.trans k6
         have gr6:=(k6.get (show st.next<st5.next by omega) (by omega) (by omega)).trans gr5
         cases b6 with
         | true =>
           refine T.jC rfl ?_
           refine T.bind (Lw W h6 (hO.BP K6) (m:=m) (z':=z') hb fun st2 vk vn nv ev wk wn cv hm h2 k2=>?_)
           have n_k2:=k2.le; (try simp only[aC,aE] at n_k2)
           obtain⟨o1,o2⟩:=hm.v.one
           obtain⟨o3,o4⟩:=hm.w.one
           have o5:=Row.one hm.names
           have o6:=Row.one hm.nG
           obtain⟨kcs,hke,hkr⟩:=hm.exprs
           have o7:=Row.one hke
           have K2':=K6.trans k2
           repeat(refine T.step (by simp(disch:=(first | ((repeat(first | rw[aC] | rw[aE] | rw[List.length_cons] | rw[List.length_nil])) <;> omega) | (refine(?_:_∧True).1; constructor; simp only[aM, *]; exact True.intro))) only[bB,k2.2.1,gr6]; try exact rfl) ?_)
           exact T.some (hφ _ _ _ _ _ _ _ _ hm (by repeat' (first | exact h2 | refine PS.push ?_ _ | refine PS.put ?_ _ ?_ | ((try simp only[aC,aE]) <;> omega))) (by repeat' (first | exact K2' | exact KP.refl | refine KP.eI ?_ | refine KP.loc ?_ ?_ | exact Or.inl rfl | exact Or.inr (Or.inl rfl) | ((try simp only[aC,aE]) <;> omega))))
         | false =>
           obtain⟨rfl,rfl⟩:=Prod.mk.inj (Option.some.inj hb)
           refine T.lG (by decide) ?_
           refine T.bind (oF h6 fun st7 h7 k7 hn7=>?_)
           have n_k7:=k7.le; (try simp only[aC,aE] at n_k7)
           have K7:=K6.trans k7
           repeat(refine T.step (by simp(disch:=(first | ((repeat(first | rw[aC] | rw[aE] | rw[List.length_cons] | rw[List.length_nil])) <;> omega) | (refine(?_:_∧True).1; constructor; simp only[aM, *]; exact True.intro))) only[bB,k7.2.1,gr6]; try exact rfl) ?_)
           exact T.some (hφ _ _ _ _ _ _ _ _ ⟨RX.e0,Row.nil,BV.Kg,RX.e0,Row.nil⟩ (by repeat' (first | exact h7 | refine PS.push ?_ _ | refine PS.put ?_ _ ?_ | ((try simp only[aC,aE]) <;> omega))) (by repeat' (first | exact K7 | exact KP.refl | refine KP.eI ?_ | refine KP.loc ?_ ?_ | exact Or.inl rfl | exact Or.inr (Or.inl rfl) | ((try simp only[aC,aE]) <;> omega))))
end
end Go.Proofs.YthodfojhbbendaaDoor
end
