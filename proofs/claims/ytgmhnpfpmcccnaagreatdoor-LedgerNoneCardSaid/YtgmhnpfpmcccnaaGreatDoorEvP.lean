/- Walks over maps, copies, what is cleared; looks; all operations. -/
import Derived.Test.YtgmhnpfpmcccnaaGreatDoorEvO
set_option linter.all false
namespace Go.Ev
open Go.RowKit (Below)

section
variable {P : Program} {W0 : World} {G : Gh} {st : St} {w : World}

/-- An object that is laid anew. -/
theorem newObj_does (I : Inv W0 G st w) {a : AObj} {o : Obj} (h : OObj G st w a o) :
    Le G st w (G.born st.next (w.heap.size, 0, 0)) (st.push a) (w.alloc o) ∧ Unb G st (G.born st.next (w.heap.size, 0, 0)) (st.push a) ∧ Inv W0 (G.born st.next (w.heap.size, 0, 0)) (st.push a) (w.alloc o) := by
  have I1 := I.push a
  have hu := push_unborn I
  have hO : OObj G (st.push a) w a o := h.mono (Le.push I a)
  refine ⟨(Le.push I a).trans (Le.born hu I1 o), fun i hi hu' => ⟨(Unb.push (G := G) a i hi hu').1, unborn_born hu' (by omega)⟩, I1.bornObj (by simp [St.push]) hu (push_get a) hO⟩

theorem range_sound (I : Inv W0 G st w) {t : TypeId} {x v : AV} {u : Value} {st' : St} (hx : Rep G st w x u) (h : rangeOp P st t x = some (v, st')) :
    ∃ r w' G', (Instr.range t u).run P w = .ok r w' ∧ Le G st w G' st' w' ∧ Unb G st G' st' ∧ Inv W0 G' st' w' ∧ Rep G' st' w' v r := by
  simp only [rangeOp, Option.bind_eq_some_iff] at h
  obtain ⟨d, hd, h⟩ := h
  have mk : ∀ (a : AObj) (o : Obj), OObj G st w a o → (Instr.range t u).run P w = .ok (.pointer (some ⟨w.heap.size, 0, none⟩)) (w.alloc o) → v = .ref st.next 0 → st' = st.push a →
      ∃ r w' G', (Instr.range t u).run P w = .ok r w' ∧ Le G st w G' st' w' ∧ Unb G st G' st' ∧ Inv W0 G' st' w' ∧ Rep G' st' w' v r := by
    rintro a o hO hr rfl rfl
    obtain ⟨h1, h2, h3⟩ := newObj_does I hO
    exact ⟨_, _, _, hr, h1, h2, h3, by simp only [Rep]; exact ⟨_, _, _, born_self _ _, rfl⟩⟩
  split at h
  · rename_i s
    injection h with h; injection h with h1 h2
    simp only [Rep] at hx; subst hx
    refine mk (.siter s 0) (.stringIter ⟨s.toArray⟩ 0) rfl ?_ h1.symm h2.symm
    simp [Instr.range, run_underlying hd]
  · injection h with h; injection h with h1 h2
    simp only [Rep] at hx; subst hx
    refine mk (.iter none 0 [] 0) (.mapIter none 0 #[] 0) rfl ?_ h1.symm h2.symm
    simp [Instr.range, run_underlying hd]
  · rename_i id
    split at h
    · rename_i es c hget
      injection h with h; injection h with h1 h2
      simp only [Rep] at hx
      obtain ⟨b, k0, n0, hb, rfl⟩ := hx
      obtain ⟨o, ho, l, rfl, hl⟩ := I.bobj id b k0 n0 _ hb hget rfl
      refine mk (.iter (some id) c [] c) (.mapIter (some b) c #[] c) ⟨b, k0, n0, rfl, hb⟩ ?_ h1.symm h2.symm
      simp [Instr.range, run_underlying hd, getObj_run ho trivial]
    · cases h
  · cases h

theorem filter_array (l : Array MapEntry) (p : MapEntry → Bool) : (l.filter p).toList = l.toList.filter p := by simp

theorem next_sound (I : Inv W0 G st w) {ty : TypeId} {it : AV} {u : Value} {str : Bool} {l : List (AV × St)} (hx : Rep G st w it u) (h : nextOp st it str = some l) :
    ∃ x ∈ l, ∃ r w' G', (Instr.next u str ty).run P w = .ok r w' ∧ Le G st w G' x.2 w' ∧ Unb G st G' x.2 ∧ Inv W0 G' x.2 w' ∧ Rep G' x.2 w' x.1 r := by
  unfold nextOp at h
  split at h
  rotate_left
  · cases h
  rename_i r
  simp only [Rep] at hx
  obtain ⟨b, k0, n0, hb, rfl⟩ := hx
  have over : Rep G st w (.tuple [.bool false]) (.tuple #[.bool false]) := by simp only [Rep]; exact ⟨_, rfl, RepL.cons (by simp only [Rep]) RepL.nil⟩
  split at h
  · rename_i s pos hget
    injection h with h; subst h
    obtain ⟨o, ho, e⟩ := I.bobj r b k0 n0 _ hb hget rfl
    simp only [OObj] at e
    subst e
    refine ⟨_, List.mem_singleton.2 rfl, ?_⟩
    have hsz : (⟨s.toArray⟩ : ByteArray).size = s.length := by simp [ByteArray.size]
    by_cases hp : pos < s.length
    · have hblt : Nat.blt pos s.length = true := Nat.ble_eq_true_of_le hp
      simp only [hblt, cond_true]
      have hO : OObj G st w (.siter s (pos + (Utf8.decode ⟨s.toArray⟩ pos).2)) (.stringIter ⟨s.toArray⟩ (pos + (Utf8.decode ⟨s.toArray⟩ pos).2)) := rfl
      obtain ⟨h1, h2, h3⟩ := obj_does (o0 := .stringIter ⟨s.toArray⟩ pos) I hb hget rfl hO
      refine ⟨.tuple #[.bool true, goInt pos, .int .i32 (Utf8.decode ⟨s.toArray⟩ pos).1], _, G, ?_, h1, h2, h3, ?_⟩
      · simp [Instr.next, getObj_run ho trivial, hsz, hp, setObj_run ho trivial]
      · simp only [Rep]
        exact ⟨_, rfl, RepL.cons (by simp only [Rep]) (RepL.cons (by simp only [Rep, goInt]) (RepL.cons (by simp only [Rep]) RepL.nil))⟩
    · have hblt : Nat.blt pos s.length = false := by
        cases e : Nat.blt pos s.length with
        | false => rfl
        | true => exact absurd (Nat.le_of_ble_eq_true e) (by omega)
      simp only [hblt, cond_false]
      exact ⟨_, w, G, by simp [Instr.next, getObj_run ho trivial, hsz, hp] <;> rfl, Le.refl _ _ _, Unb.refl _ _, I, over⟩
  · rename_i since seen last hget
    injection h with h; subst h
    obtain ⟨o, ho, e⟩ := I.bobj r b k0 n0 _ hb hget rfl
    simp only [OObj] at e
    subst e
    exact ⟨_, List.mem_singleton.2 rfl, _, w, G, by simp [Instr.next, getObj_run ho trivial] <;> rfl, Le.refl _ _ _, Unb.refl _ _, I, over⟩
  · rename_i m since seen last hget
    split at h
    rotate_left
    · cases h
    rename_i es clock hm
    have h0 := cond_none h
    clear h
    obtain ⟨hq, h⟩ := h0
    injection h with h
    dsimp only at h
    obtain ⟨o, ho, mb, k1, n1, rfl, hmb⟩ := I.bobj r b k0 n0 _ hb hget rfl
    obtain ⟨o', ho', L, rfl, hL⟩ := I.bobj m mb k1 n1 _ hmb hm rfl
    -- the model's own filters
    have e1 : L.toList.map (·.born) = es.map (·.2.2) := hL.borns
    have guard : (!seen.toArray.isEmpty && !L.isEmpty && L.all (fun x => decide (x.born ≥ last))) = false := by
      have a1 : L.isEmpty = es.isEmpty := by
        have := hL.length
        simp only [Array.length_toList] at this
        cases es with
        | nil => simpa using this
        | cons _ _ => simp at this ⊢; intro e; rw [e] at this; simp at this
      have a2 : L.all (fun x => decide (x.born ≥ last)) = es.all (fun e => Nat.ble last e.2.2) := by
        rw [← Array.all_toList]
        have : ∀ (l : List MapEntry) (es : List (AV × AV × Nat)), l.map (·.born) = es.map (·.2.2) → l.all (fun x => decide (x.born ≥ last)) = es.all (fun e => Nat.ble last e.2.2) := by
          intro l
          induction l with
          | nil => intro es h; cases es with | nil => rfl | cons _ _ => simp at h
          | cons x l ih =>
            intro es h
            cases es with
            | nil => simp at h
            | cons e es =>
              simp only [List.map_cons, List.cons.injEq] at h
              simp only [List.all_cons, ih es h.2, h.1]
              congr 1
              by_cases hl : last ≤ e.2.2
              · simp [hl, Nat.ble_eq_true_of_le hl]
              · have : Nat.ble last e.2.2 = false := by
                  cases hb : Nat.ble last e.2.2 with
                  | false => rfl
                  | true => exact absurd (Nat.le_of_ble_eq_true hb) hl
                simp [hl, this]
        exact this _ _ e1
      rw [a1, a2]
      simpa using hq
    have seenp : ∀ n : Nat, (seen.any fun b => Nat.beq b n) = seen.toArray.contains n := by
      intro n
      rw [Bool.eq_iff_iff, List.any_eq_true]
      simp only [List.contains_toArray, List.contains_iff_mem]
      constructor
      · rintro ⟨x, h1, h2⟩
        have := Nat.eq_of_beq_eq_true h2
        subst this
        exact h1
      · intro h
        exact ⟨n, h, by simp⟩
    have hleft : RepEs G st w (es.filter fun e => !(seen.any fun b => Nat.beq b e.2.2)) (L.toList.filter fun e => !(seen.any fun b => Nat.beq b e.born)) := RepEs.filter (p := fun n => !(seen.any fun b => Nat.beq b n)) hL
    have hold : RepEs G st w ((es.filter fun e => !(seen.any fun b => Nat.beq b e.2.2)).filter fun e => Nat.blt e.2.2 since) ((L.toList.filter fun e => !(seen.any fun b => Nat.beq b e.born)).filter fun e => Nat.blt e.born since) := RepEs.filter (p := fun n => Nat.blt n since) hleft
    have hnew : RepEs G st w ((es.filter fun e => !(seen.any fun b => Nat.beq b e.2.2)).filter fun e => Nat.ble since e.2.2) ((L.toList.filter fun e => !(seen.any fun b => Nat.beq b e.born)).filter fun e => Nat.ble since e.born) := RepEs.filter (p := fun n => Nat.ble since n) hleft
    have hall := RepEs.append hold hnew
    generalize hO : ((es.filter fun e => !(seen.any fun b => Nat.beq b e.2.2)).filter fun e => Nat.blt e.2.2 since) = O at h hold hall
    generalize hN : ((es.filter fun e => !(seen.any fun b => Nat.beq b e.2.2)).filter fun e => Nat.ble since e.2.2) = N at h hnew hall
    have mO : ((L.filter fun e => !seen.toArray.contains e.born).filter fun e => decide (e.born < since)).toList = (L.toList.filter fun e => !(seen.any fun b => Nat.beq b e.born)).filter fun e => Nat.blt e.born since := by
      rw [filter_array, filter_array]
      congr 1
      · funext e
        rw [Bool.eq_iff_iff, decide_eq_true_eq]
        exact ⟨fun h => Nat.ble_eq_true_of_le h, fun h => Nat.le_of_ble_eq_true h⟩
      · congr 1
        funext e
        rw [seenp]
    have mN : ((L.filter fun e => !seen.toArray.contains e.born).filter fun e => decide (e.born ≥ since)).toList = (L.toList.filter fun e => !(seen.any fun b => Nat.beq b e.born)).filter fun e => Nat.ble since e.born := by
      rw [filter_array, filter_array]
      congr 1
      · funext e
        rw [Bool.eq_iff_iff, decide_eq_true_eq]
        exact ⟨fun h => Nat.ble_eq_true_of_le h, fun h => Nat.le_of_ble_eq_true h⟩
      · congr 1
        funext e
        rw [seenp]
    generalize hMO : ((L.filter fun e => !seen.toArray.contains e.born).filter fun e => decide (e.born < since)) = MO at mO
    generalize hMN : ((L.filter fun e => !seen.toArray.contains e.born).filter fun e => decide (e.born ≥ since)) = MN at mN
    rw [← mO] at hold hall
    rw [← mN] at hall
    -- the candidates
    let cand : Array (Option MapEntry) := (if MO.isEmpty then #[none] else #[]) ++ (MO ++ MN).map some
    have hrun : ∀ (k : Nat) (w1 : World), (choose (.mapNext cand.size)).run P w = .ok k w1 → w1.heap = w.heap →
        (Instr.next (.pointer (some ⟨b, 0, none⟩)) false ty).run P w = (match cand[k]? with
          | some (some e) => (do
              setObj b (.mapIter (some mb) since (seen.toArray.push e.born) clock)
              pure (.tuple #[.bool true, e.key, e.val]) : Sem Value).run P w1
          | some none => .ok (.tuple #[.bool false]) w1
          | none => (stuck "Next: no such candidate" : Sem Value).run P w1) := by
      intro k w1 hk hw1
      unfold Instr.next
      simp only [Sem.run_bind, getObj_run ho trivial, Result.andThen_ok, getObj_run ho' trivial, guard, Bool.false_eq_true, if_false, hMO, hMN]
      show Result.andThen ((choose (.mapNext cand.size)).run P w) _ = _
      rw [hk, Result.andThen_ok]
      cases hc : cand[k]? with
      | none => rfl
      | some o => cases o <;> simp
    have hcs : cand.toList = (if MO.isEmpty then [none] else []) ++ (MO.toList ++ MN.toList).map some := by
      simp only [cand]
      split <;> simp
    have hpos : 0 < cand.size := by
      rw [← Array.length_toList, hcs]
      by_cases he : MO.isEmpty = true
      · simp [he]
      · have : MO.size ≠ 0 := by simpa [Array.isEmpty] using he
        simp [he]
        omega
    have hchoose : ∃ k w1, (choose (.mapNext cand.size)).run P w = .ok k w1 ∧ k < cand.size ∧ (w1 = w ∨ w1 = w.drew) := by
      by_cases h1 : cand.size ≤ 1
      · exact ⟨0, w, by simp [choose, Sem.run, Question.forced, h1], hpos, .inl rfl⟩
      · refine ⟨(w.tape w.drawn (.mapNext cand.size)) % cand.size, w.drew, ?_, Nat.mod_lt _ hpos, .inr rfl⟩
        have hnf : (Question.mapNext cand.size).forced = false := by simp [Question.forced]; omega
        simp only [choose, Sem.run, hnf, Bool.false_eq_true, if_false, Question.cut]
        rfl
    obtain ⟨k, w1, c1, c2, c3⟩ := hchoose
    have I1 : Inv W0 G st w1 := by rcases c3 with rfl | rfl; exact I; exact I.drew
    have L1 : Le G st w G st w1 := by rcases c3 with rfl | rfl; exact Le.refl _ _ _; exact Le.drew
    have hh1 : w1.heap = w.heap := by rcases c3 with rfl | rfl <;> rfl
    have hr := hrun k w1 c1 hh1
    have hck : cand[k]? = cand.toList[k]? := by simp
    have hoe : O.isEmpty = MO.isEmpty := by
      have := hold.length
      simp only [Array.length_toList] at this
      cases O with
      | nil => simp at this; simp [this]
      | cons _ _ => simp at this ⊢; intro e; rw [e] at this; simp at this
    rw [hck, hcs] at hr
    have hk2 : k < ((if MO.isEmpty then [none] else []) ++ (MO.toList ++ MN.toList).map some : List (Option MapEntry)).length := by rw [← hcs]; simpa using c2
    -- one of them
    have step : ∀ (j : Nat) (e : AV × AV × Nat), (O ++ N)[j]? = some e → ((if MO.isEmpty then [none] else []) ++ (MO.toList ++ MN.toList).map some : List (Option MapEntry))[k]? = ((MO.toList ++ MN.toList)[j]?).map some →
        ∃ r' w' G', (Instr.next (.pointer (some ⟨b, 0, none⟩)) false ty).run P w = .ok r' w' ∧ Le G st w G' (st.put r (.iter (some m) since (seen ++ [e.2.2]) clock)) w' ∧ Unb G st G' (st.put r (.iter (some m) since (seen ++ [e.2.2]) clock)) ∧ Inv W0 G' (st.put r (.iter (some m) since (seen ++ [e.2.2]) clock)) w' ∧ Rep G' (st.put r (.iter (some m) since (seen ++ [e.2.2]) clock)) w' (.tuple [.bool true, e.1, e.2.1]) r' := by
      intro j e he hj
      obtain ⟨me, m1, m2, m3, m4⟩ := hall.get he
      rw [m1] at hj
      rw [hj] at hr
      simp only [Option.map_some] at hr
      have hO' : OObj G st w1 (.iter (some m) since (seen ++ [e.2.2]) clock) (.mapIter (some mb) since (seen.toArray.push me.born) clock) := ⟨mb, k1, n1, by rw [m4]; simp, hmb⟩
      obtain ⟨h1, h2, h3⟩ := obj_does (o0 := .mapIter (some mb) since seen.toArray last) I1 hb hget rfl hO'
      have hob : w1.heap[b]? = some (.mapIter (some mb) since seen.toArray last) := by rw [hh1]; exact ho
      refine ⟨.tuple #[.bool true, me.key, me.val], _, G, ?_, L1.trans h1, h2, h3, ?_⟩
      · rw [hr]
        simp only [Sem.run_bind, setObj_run hob trivial, Result.andThen_ok, Sem.run_pure]
      · have L2 := L1.trans h1
        simp only [Rep]
        exact ⟨_, rfl, RepL.cons (by simp only [Rep]) (RepL.cons (Rep.mono L2 _ _ m2) (RepL.cons (Rep.mono L2 _ _ m3) RepL.nil))⟩
    by_cases he : MO.isEmpty = true
    · rw [he] at hoe
      simp only [he, if_true] at hr hk2 step
      cases k with
      | zero =>
        simp at hr
        refine ⟨(.tuple [.bool false], st), by rw [← h, hoe]; simp, _, w1, G, hr, L1, Unb.refl _ _, I1, Rep.mono L1 _ _ over⟩
      | succ j =>
        have hjl : j < (O ++ N).length := by
          have := hall.length
          simp only [List.length_append, Array.length_toList] at this hk2 ⊢
          simp at hk2
          omega
        have hget' : (O ++ N)[j]? = some (O ++ N)[j] := by simp [hjl]
        have := step j _ hget' (by rw [List.cons_append, List.nil_append, List.getElem?_cons_succ, List.getElem?_map])
        refine ⟨(.tuple [.bool true, (O ++ N)[j].1, (O ++ N)[j].2.1], st.put r (.iter (some m) since (seen ++ [(O ++ N)[j].2.2]) clock)), ?_, this⟩
        rw [← h]
        refine List.mem_append_right _ (List.mem_map.2 ⟨(O ++ N)[j], List.getElem_mem _, rfl⟩)
    · have he' : MO.isEmpty = false := by simpa using he
      simp only [he', Bool.false_eq_true, if_false, List.nil_append] at hr hk2 step
      have hjl : k < (O ++ N).length := by
        have := hall.length
        simp only [List.length_append, Array.length_toList] at this ⊢
        simp at hk2
        omega
      have hget' : (O ++ N)[k]? = some (O ++ N)[k] := by simp [hjl]
      have := step k _ hget' (List.getElem?_map ..)
      refine ⟨(.tuple [.bool true, (O ++ N)[k].1, (O ++ N)[k].2.1], st.put r (.iter (some m) since (seen ++ [(O ++ N)[k].2.2]) clock)), ?_, this⟩
      rw [← h]
      refine List.mem_append_right _ (List.mem_map.2 ⟨(O ++ N)[k], List.getElem_mem _, rfl⟩)
  · cases h
end
end Go.Ev
