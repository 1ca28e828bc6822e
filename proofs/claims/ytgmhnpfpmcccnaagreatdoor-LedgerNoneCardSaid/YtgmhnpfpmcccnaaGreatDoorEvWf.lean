/- slices.Insert within the slice, as the evaluator takes it: the old thing is dead, a new one holds the cells. -/
import Derived.Test.YtgmhnpfpmcccnaaGreatDoorEvWd
import Derived.Test.YtgmhnpfpmcccnaaGreatDoorEvWe
set_option linter.all false
namespace Go.Ev
open Go.RowKit (Below)
open Go.EvIns (InsLay ins_shift ins_grow insBody)

def cellsOf (st : St) (id : Nat) : Option (TypeId × Bool × List AV) := match st.objs.get id with
  | some (.cells t u cs) => some (t, u, cs)
  | _ => none
theorem cellsOf_some {st : St} {id : Nat} {t : TypeId} {u : Bool} {cs : List AV} (h : cellsOf st id = some (t, u, cs)) : st.objs.get id = some (.cells t u cs) := by
  unfold cellsOf at h
  split at h
  · rename_i h1
    injection h with h; injection h with h2 h3; injection h3 with h3 h4
    subst h2; subst h3; subst h4
    exact h1
  · cases h
def insH (T : TypeId) (sz : Nat) (args : List AV) (st : St) : Option (AV × St) := match args with
  | [.sref id off len sz1 none, .int .i64 (.ofNat i), .sref id2 off2 m sz2 _] =>
    cond (Nat.beq off 0 && Nat.beq sz1 sz && Nat.beq off2 0 && Nat.beq sz2 sz && Nat.blt i len && Nat.blt 0 m && !Nat.beq id id2 && Nat.ble (len + m) most)
      ((cellsOf st id).bind fun x => (cellsOf st id2).bind fun y => cond (y.2.1 && Nat.beq x.1 T && Nat.ble (len * sz) x.2.2.length && Nat.beq y.2.2.length (m * sz) && (x.2.2.take (len * sz)).all AV.one && y.2.2.all AV.one)
            (some (.sref st.next 0 (len + m) sz none, (st.put id .dead).push (.cells T false ((x.2.2.take (len * sz)).take (i * sz) ++ y.2.2 ++ (x.2.2.take (len * sz)).drop (i * sz))))) none) none
  | _ => none
def insMext (g : FuncId) (T : TypeId) (sz : Nat) (old : FuncId → List AV → St → Option (AV × St)) : FuncId → List AV → St → Option (AV × St) := fun f args st => cond (Nat.beq f g) (insH T sz args st) (old f args st)

def setIn (C : Array Value) : Nat → List Value → Array Value
  | _, [] => C
  | o, v :: r => setIn (C.setIfInBounds o v) (o + 1) r
theorem size_setIn : ∀ (vs : List Value) (C : Array Value) (o : Nat), (setIn C o vs).size = C.size
  | [], _, _ => rfl
  | v :: r, C, o => by rw [setIn, size_setIn r]; simp
theorem setCells_alloc : ∀ (vs : List Value) (w : World) (C : Array Value) (t : TypeId) (o : Nat), (w.alloc (.cells C t)).setCells w.heap.size o vs = w.alloc (.cells (setIn C o vs) t)
  | [], _, _, _, _ => rfl
  | v :: r, w, C, t, o => by rw [World.setCells, World.setCell_alloc_at C t w.heap.size o v rfl, setCells_alloc r, setIn]

section
variable {W0 : World} {G : Gh} {st : St} {w : World} {P : Program}
theorem insMext_ok {ρ : Go.Shelf.Ren} {nm : String} {sz by_ : Nat} {z : Value} {old : FuncId → List AV → St → Option (AV × St)} (ho : MextOk P old) (L : InsLay P ρ nm sz by_ z) (h0 : (nm == "runtime.NumGoroutine") = false) :
    MextOk P (insMext (ρ.f 22) (ρ.t 9) sz old) := by
  intro f args st v st' hx W0 G w vs I hr
  unfold insMext at hx
  cases hfg : Nat.beq f (ρ.f 22) with
  | false =>
    rw [hfg] at hx
    exact ho f args st v st' hx W0 G w vs I hr
  | true =>
  rw [hfg] at hx
  have := Nat.eq_of_beq_eq_true hfg
  subst this
  simp only [cond_true] at hx
  unfold insH at hx
  split at hx
  rotate_left
  · cases hx
  rename_i id off n sz1 i id2 off2 m sz2 cap2
  have hx0 := cond_some hx
  clear hx
  obtain ⟨hq, hx⟩ := hx0
  simp only [Bool.and_eq_true, Bool.not_eq_true'] at hq
  obtain ⟨⟨⟨⟨⟨⟨⟨q1, q2⟩, q3⟩, q4⟩, q5⟩, q6⟩, q7⟩, q8⟩ := hq
  have q1 := Nat.eq_of_beq_eq_true q1
  have q2 := Nat.eq_of_beq_eq_true q2
  have q3 := Nat.eq_of_beq_eq_true q3
  have q4 := Nat.eq_of_beq_eq_true q4
  have q5 := Nat.le_of_ble_eq_true q5
  have q6 := Nat.le_of_ble_eq_true q6
  have q7 : id ≠ id2 := by rintro rfl; simp at q7
  have q8 := Nat.le_of_ble_eq_true q8
  subst q1; subst q2; subst q3; subst q4
  simp only [Option.bind_eq_some_iff] at hx
  obtain ⟨⟨t, u, cs⟩, hcs, ⟨t2, u2, cs2⟩, hcs2, hx⟩ := hx
  have hcs := cellsOf_some hcs
  have hcs2 := cellsOf_some hcs2
  have hx0 := cond_some hx
  clear hx
  obtain ⟨hq, hx⟩ := hx0
  simp only [Bool.and_eq_true] at hq
  obtain ⟨⟨⟨⟨⟨p0, p1⟩, p2⟩, p3⟩, p4⟩, p5⟩ := hq
  subst p0
  have p1 := Nat.eq_of_beq_eq_true p1
  have p2 := Nat.le_of_ble_eq_true p2
  have p3 := Nat.eq_of_beq_eq_true p3
  injection hx with hx; injection hx with e1 e2; subst e1; subst e2
  -- the arguments
  obtain ⟨v1, l1, e1, r1, hr⟩ := hr.cons_inv
  obtain ⟨v2, l2, e2, r2, hr⟩ := hr.cons_inv
  obtain ⟨v3, l3, e3, r3, hr⟩ := hr.cons_inv
  have e4 := hr.nil_inv
  subst e4; subst e3; subst e2
  have : vs = #[v1, v2, v3] := by apply Array.ext'; simpa using e1
  subst this
  simp only [Rep] at r1 r2 r3
  obtain ⟨b, k0, n0, c, x1, rfl, x3, _, x5, x6⟩ := r1
  obtain ⟨vb, k2, n2, c2, y1, rfl, y3, _, _, _⟩ := r3
  subst r2
  obtain ⟨x7, x8⟩ := x5 trivial
  obtain ⟨j1, j2, j3, _, j5, j6⟩ := I.bcell id b k0 n0 t u cs x1 hcs
  obtain ⟨m1, m2, m3, m4, m5, m6⟩ := I.bcell id2 vb k2 n2 t2 true cs2 y1 hcs2
  obtain ⟨m4, m7⟩ := m4 rfl
  have hne : vb ≠ b := by
    rintro rfl
    exact q7 (I.binj id id2 vb _ _ _ _ x1 y1 (by rw [hcs]; intro e; cases e) (by rw [hcs2]; intro e; cases e))
  obtain ⟨cvs1, c1, c3, c4⟩ := j1.values
  have c1 := c1.take (n * sz2)
  have c4 : ∀ (j : Nat) v, (cvs1.take (n * sz2))[j]? = some v → w.cell? ⟨b, 0 + j, none⟩ = some v := fun j v hj => c4 j v (by
    rw [List.getElem?_take] at hj
    split at hj
    · exact hj
    · cases hj)
  have hc0 : (cs.take (n * sz2)).length = n * sz2 := by rw [List.length_take]; omega
  have hcl : (cvs1.take (n * sz2)).length = n * sz2 := by rw [List.length_take]; omega
  obtain ⟨cs0, hcs0⟩ : ∃ cs0, cs0 = cs.take (n * sz2) := ⟨_, rfl⟩
  obtain ⟨cvs, hcvs⟩ : ∃ cvs, cvs = cvs1.take (n * sz2) := ⟨_, rfl⟩
  rw [← hcs0] at c1 hc0 p4 ⊢
  rw [← hcvs] at c1 c4 hcl
  obtain ⟨vvs, d1, d3, d4⟩ := m1.values
  have hs0 := L.hs0
  have mA : (n + m) * sz2 = n * sz2 + m * sz2 := Nat.add_mul _ _ _
  have mB : (i + m) * sz2 = i * sz2 + m * sz2 := Nat.add_mul _ _ _
  have mC : i * sz2 < n * sz2 := Nat.mul_lt_mul_of_pos_right q5 hs0
  have mE : 0 < m * sz2 := Nat.mul_pos q6 hs0
  have mF : n * sz2 ≤ c * sz2 := Nat.mul_le_mul_right _ x3
  have hmost : most = 1073741824 := rfl
  have hvl : vvs.length = m * sz2 := by omega
  simp only [Nat.zero_add] at c4 d4 x7 x8
  have o1 := c1.one p4
  have o2 := d1.one p5
  subst p1
  have hbb := I.blt id b k0 n0 x1
  -- what comes of it
  have hus : ∀ {G' : Gh} {st' : St} {w' : World}, Le G st w G' st' w' → RepL G' st' w' (cs0.take (i * sz2) ++ cs2 ++ cs0.drop (i * sz2)) (cvs.take (i * sz2) ++ vvs ++ cvs.drop (i * sz2)) := fun L =>
    RepL.append (RepL.append (RepL.mono L _ _ (c1.take _)) (RepL.mono L _ _ d1)) (RepL.mono L _ _ (c1.drop _))
  have hul : (cs0.take (i * sz2) ++ cs2 ++ cs0.drop (i * sz2)).length = (n + m) * sz2 := by
    simp only [List.length_append, List.length_take, List.length_drop]
    omega
  refine .inr ⟨?_, ?_⟩
  · have h0' : ¬ nm = "runtime.NumGoroutine" := by simpa using h0
    have hb : ¬ (insBody ρ nm).body = none := by intro h; cases h
    simp [callFunc, L.f22, h0', hb]
  -- what the cells hold behind two rows that are laid
  have laid : ∀ (W : World) (B : Nat), (∀ j, j < (n + m) * sz2 → (W.cell? ⟨B, j, none⟩).isSome = true) → (∀ j v, j < i * sz2 → cvs[j]? = some v → W.cell? ⟨B, j, none⟩ = some v) → 
      (∀ (j : Nat) u, (cvs.take (i * sz2) ++ vvs ++ cvs.drop (i * sz2))[j]? = some u → ((W.setCells B ((i + m) * sz2) (cvs.drop (i * sz2))).setCells B (i * sz2) vvs).cell? ⟨B, j, none⟩ = some u) ∧
      (∀ (j : Nat) u, (cvs.take (i * sz2) ++ vvs ++ cvs.drop (i * sz2))[j]? = some u → ((W.setCells B (i * sz2) vvs).setCells B ((i + m) * sz2) (cvs.drop (i * sz2))).cell? ⟨B, j, none⟩ = some u) := by
    intro W B hsome hold
    have hdl : (cvs.drop (i * sz2)).length = n * sz2 - i * sz2 := by rw [List.length_drop, hcl]
    have htl : (cvs.take (i * sz2)).length = i * sz2 := by rw [List.length_take]; omega
    have s1 : ∀ j, j < (n + m) * sz2 → ((W.setCells B ((i + m) * sz2) (cvs.drop (i * sz2))).cell? ⟨B, j, none⟩).isSome = true := fun j hj => isSome_setCells B B _ _ _ j (hsome j hj)
    have s2 : ∀ j, j < (n + m) * sz2 → ((W.setCells B (i * sz2) vvs).cell? ⟨B, j, none⟩).isSome = true := fun j hj => isSome_setCells B B _ _ _ j (hsome j hj)
    constructor <;> intro j u hu <;> have hju := (List.getElem?_eq_some_iff.1 hu).1 <;> simp only [List.length_append, htl, hdl, hvl] at hju
    · rcases Nat.lt_or_ge j (i * sz2) with h1 | h1
      · rw [List.append_assoc, List.getElem?_append_left (by rw [htl]; exact h1), List.getElem?_take, if_pos h1] at hu
        rw [World.cell?_setCells_out B vvs _ _ _ (fun _ => by simp; omega), World.cell?_setCells_out B _ _ _ _ (fun _ => by simp; omega)]
        exact hold j u h1 hu
      · rcases Nat.lt_or_ge j ((i + m) * sz2) with h2 | h2
        · rw [List.append_assoc, List.getElem?_append_right (by rw [htl]; exact h1), htl, List.getElem?_append_left (by omega)] at hu
          have := World.cell?_setCells_in B vvs (i * sz2) (W.setCells B ((i + m) * sz2) (cvs.drop (i * sz2))) (fun k hk => s1 _ (by omega)) (j - i * sz2) (by omega)
          rw [show i * sz2 + (j - i * sz2) = j by omega] at this
          rw [this]
          rw [List.getElem?_eq_getElem (by omega)] at hu
          exact hu
        · rw [List.getElem?_append_right (by simp only [List.length_append, htl, hvl]; omega)] at hu
          simp only [List.length_append, htl, hvl] at hu
          rw [World.cell?_setCells_out B vvs _ _ _ (fun _ => by simp; omega)]
          have := World.cell?_setCells_in B (cvs.drop (i * sz2)) ((i + m) * sz2) W (fun k hk => hsome _ (by omega)) (j - (i + m) * sz2) (by omega)
          rw [show (i + m) * sz2 + (j - (i + m) * sz2) = j by omega] at this
          rw [this]
          rw [show j - (i * sz2 + m * sz2) = j - (i + m) * sz2 by omega, List.getElem?_eq_getElem (by omega)] at hu
          exact hu
    · rcases Nat.lt_or_ge j (i * sz2) with h1 | h1
      · rw [List.append_assoc, List.getElem?_append_left (by rw [htl]; exact h1), List.getElem?_take, if_pos h1] at hu
        rw [World.cell?_setCells_out B _ _ _ _ (fun _ => by simp; omega), World.cell?_setCells_out B _ _ _ _ (fun _ => by simp; omega)]
        exact hold j u h1 hu
      · rcases Nat.lt_or_ge j ((i + m) * sz2) with h2 | h2
        · rw [List.append_assoc, List.getElem?_append_right (by rw [htl]; exact h1), htl, List.getElem?_append_left (by omega)] at hu
          rw [World.cell?_setCells_out B _ _ _ _ (fun _ => by simp; omega)]
          have := World.cell?_setCells_in B vvs (i * sz2) W (fun k hk => hsome _ (by omega)) (j - i * sz2) (by omega)
          rw [show i * sz2 + (j - i * sz2) = j by omega] at this
          rw [this]
          rw [List.getElem?_eq_getElem (by omega)] at hu
          exact hu
        · rw [List.getElem?_append_right (by simp only [List.length_append, htl, hvl]; omega)] at hu
          simp only [List.length_append, htl, hvl] at hu
          have := World.cell?_setCells_in B (cvs.drop (i * sz2)) ((i + m) * sz2) (W.setCells B (i * sz2) vvs) (fun k hk => s2 _ (by omega)) (j - (i + m) * sz2) (by omega)
          rw [show (i + m) * sz2 + (j - (i + m) * sz2) = j by omega] at this
          rw [this]
          rw [show j - (i * sz2 + m * sz2) = j - (i + m) * sz2 by omega, List.getElem?_eq_getElem (by omega)] at hu
          exact hu
  have hbw : W0.heap.size ≤ b := hbb.1
  by_cases hroom : n + m ≤ c
  · -- in place
    have mG : (n + m) * sz2 ≤ c * sz2 := Nat.mul_le_mul_right _ hroom
    have h := ins_shift L b 0 n c i vb 0 m c2 cvs vvs w q5 q6 hroom (by omega) hne hcl hvl (fun j v hj => by rw [Nat.zero_add]; exact c4 j v hj) (fun j hj => by rw [Nat.zero_add]; exact cell_of_shape j5 (by omega)) (fun j hj => by rw [Nat.zero_add]; exact j6 _ (by omega))
      (fun j v hj => by rw [Nat.zero_add]; exact d4 j v hj) o1 o2 t2 (ρ.t 9) n2 n0 m5 j5 (by omega) (m6 0 (by omega)) m7
    refine Calls.mono h fun e w' he => ?_
    obtain ⟨rfl, rfl⟩ := he
    simp only [Nat.zero_add]
    have hoth : ∀ b', b' ≠ b → ((w.drew.setCells b ((i + m) * sz2) (cvs.drop (i * sz2))).setCells b (i * sz2) vvs).heap[b']? = w.heap[b']? := fun b' hb' => by rw [heap_setCells b b' hb', heap_setCells b b' hb']; rfl
    have L2 := Le.moved2 (ks := cs0.take (i * sz2) ++ cs2 ++ cs0.drop (i * sz2)) (t := ρ.t 9) I x1 hoth
    have hI := I.moved2 (ks := cs0.take (i * sz2) ++ cs2 ++ cs0.drop (i * sz2)) (us := cvs.take (i * sz2) ++ vvs ++ cvs.drop (i * sz2)) x1 hcs (by rw [size_setCells, size_setCells]; rfl) (below_setCells b hbw _ _ _ (below_setCells b hbw _ _ _ I.below.drew)) hoth
      (by rw [shape_setCells, shape_setCells]; rfl) (fun j => by rw [World.frozen?_setCells, World.frozen?_setCells]; rfl) (hus (Le.refl _ _ _))
      (laid w.drew b (fun j hj => cell_of_shape (w := w) j5 (by omega)) (fun j v _ hj => c4 j v hj)).1 (by rw [hul]; omega)
    refine ⟨_, _, rfl, ⟨L2, ?_, hI⟩, ?_⟩
    · refine ((Unb.put (o := .dead) (by intro hu; rw [hu.1] at x1; cases x1)).trans (Nat.le_refl _) ?_ : Unb G st _ _)
      intro i hi hu
      refine ⟨(Unb.push (G := G) _ i hi hu).1, unborn_born hu (by have : i < st.next := hi; omega)⟩
    · simp only [Rep]
      refine ⟨b, _, _, c, born_self _ _, rfl, hroom, (fun k hk => by cases hk), (fun _ => ⟨?_, ?_⟩), x6⟩
      · rw [hul]; omega
      · omega
  · -- a new row
    have hroom' : c < n + m := by omega
    have h := ins_grow L b 0 n c i vb 0 m c2 cvs vvs w q5 q6 x3 hroom' (by omega) hcl hvl (fun j v hj => by rw [Nat.zero_add]; exact c4 j v hj) (fun j v hj => by rw [Nat.zero_add]; exact d4 j v hj) o1 o2
    refine Calls.mono h fun e w' he => ?_
    obtain ⟨rfl, hw'⟩ := he
    have hge := grownCap_ge w (n + m) c (ρ.t 9)
    obtain ⟨GC, hGC⟩ : ∃ GC, GC = grownCap w (n + m) c (ρ.t 9) := ⟨_, rfl⟩
    rw [← hGC] at hge hw' ⊢
    obtain ⟨ROW, hROW⟩ : ∃ ROW : Array Value, ROW = (cvs.take (i * sz2)).toArray ++ Builtin.zeroCells z.cells (n + m - i) ++ Builtin.zeroCells z.cells (GC - (n + m)) := ⟨_, rfl⟩
    rw [← hROW] at hw'
    have hRs : ROW.size = GC * sz2 := by
      rw [hROW]
      simp only [Array.size_append, List.size_toArray, size_zeroCells, L.hzc, List.length_take]
      have e1 : (n + m - i) * sz2 = (n + m) * sz2 - i * sz2 := Nat.sub_mul _ _ _
      have e2 : (GC - (n + m)) * sz2 = GC * sz2 - (n + m) * sz2 := Nat.sub_mul _ _ _
      have e3 : (n + m) * sz2 ≤ GC * sz2 := Nat.mul_le_mul_right _ hge
      omega
    have mG : (n + m) * sz2 ≤ GC * sz2 := Nat.mul_le_mul_right _ hge
    have hw2 : w' = ((w.drew.drew.alloc (.cells ROW (ρ.t 9))).setCells w.heap.size (i * sz2) vvs).setCells w.heap.size ((i + m) * sz2) (cvs.drop (i * sz2)) := by
      rw [hw', Go.Proofs.drew_setCells]
      rfl
    have hw3 : w' = w.drew.drew.alloc (.cells (setIn (setIn ROW (i * sz2) vvs) ((i + m) * sz2) (cvs.drop (i * sz2))) (ρ.t 9)) := by
      rw [hw2]
      have e1 := setCells_alloc vvs w.drew.drew ROW (ρ.t 9) (i * sz2)
      have e2 := setCells_alloc (cvs.drop (i * sz2)) w.drew.drew (setIn ROW (i * sz2) vvs) (ρ.t 9) ((i + m) * sz2)
      rw [← e1] at e2
      exact e2
    obtain ⟨C, hC⟩ : ∃ C, C = setIn (setIn ROW (i * sz2) vvs) ((i + m) * sz2) (cvs.drop (i * sz2)) := ⟨_, rfl⟩
    have hCs : C.size = GC * sz2 := by rw [hC, size_setIn, size_setIn, hRs]
    rw [← hC] at hw3
    have hcell : ∀ (j : Nat) u, (cvs.take (i * sz2) ++ vvs ++ cvs.drop (i * sz2))[j]? = some u → C[j]? = some u := fun j u hu => by
      have := (laid (w.drew.drew.alloc (.cells ROW (ρ.t 9))) w.heap.size (fun j hj => by
        rw [World.cell?_alloc_at (w := w.drew.drew) ROW _ w.heap.size j rfl, Array.getElem?_eq_getElem (by omega)]; rfl) (fun j v hj1 hj2 => by
        rw [World.cell?_alloc_at (w := w.drew.drew) ROW _ w.heap.size j rfl, hROW, Array.append_assoc, Array.getElem?_append_left (by simp; omega)]
        simp only [List.getElem?_toArray, List.getElem?_take, if_pos hj1]
        exact hj2)).2 j u hu
      rw [← hw2, hw3, World.cell?_alloc_at (w := w.drew.drew) C _ w.heap.size j rfl] at this
      exact this
    subst hw3
    have J0 := I.drew.drew
    have J1 := J0.kill x1 hcs (by intro e; cases e)
    have J2 := J1.push (.cells (ρ.t 9) false (cs0.take (i * sz2) ++ cs2 ++ cs0.drop (i * sz2)))
    have L0 : Le G st w G st w.drew.drew := Le.drew.trans Le.drew
    have L1 := L0.trans (Le.kill J0 x1)
    have L2 := L1.trans (Le.push J1 (.cells (ρ.t 9) false (cs0.take (i * sz2) ++ cs2 ++ cs0.drop (i * sz2))))
    have hu := push_unborn J1
    have L3 := L2.trans (Le.born (x := (w.drew.drew.heap.size, (cs0.take (i * sz2) ++ cs2 ++ cs0.drop (i * sz2)).length, C.size)) hu J2 (.cells C (ρ.t 9)))
    have hI := J2.born (C := C) (t := ρ.t 9) (fr := (0, 0)) (by simp [St.push, St.put]) hu (push_get _) (fun e => by cases e) (hus L2) hcell (by rw [hul, hCs]; exact mG) (.inl (by simp))
    refine ⟨_, _, rfl, ⟨L3, ?_, hI⟩, ?_⟩
    · refine ((Unb.put (o := .dead) (by intro hu; rw [hu.1] at x1; cases x1)).trans (Nat.le_refl _) ?_ : Unb G st _ _)
      intro i hi hu
      refine ⟨(Unb.push (G := G) _ i hi hu).1, unborn_born hu (by have : i < st.next := hi; simp [St.put]; omega)⟩
    · simp only [Rep]
      refine ⟨_, _, _, GC, born_self _ _, rfl, hge, (fun k hk => by cases hk), (fun _ => ⟨?_, ?_⟩), x6⟩
      · rw [hul]; omega
      · rw [hCs]; omega
end
end Go.Ev
