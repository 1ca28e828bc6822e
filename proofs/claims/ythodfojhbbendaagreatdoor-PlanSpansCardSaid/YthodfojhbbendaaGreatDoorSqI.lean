/- PlanSpans: the walk, out of what the row tells of the world's own memory: values in cells. -/
import Derived.Test.YthodfojhbbendaaGreatDoorSqH
import Derived.Test.YthodfojhbbendaaGreatDoorRows
import Derived.WalkKit
import Derived.ProofKit
import Derived.LaidMore
import Derived.OpenShut
import Derived.ChangeOld
import Derived.Below
import Derived.Stop.Joined
import Derived.MakeChecks
import Derived.SliceStrings
set_option linter.all false
set_option maxRecDepth 100000
set_option maxHeartbeats 2000000
namespace Go.Proofs.YthodfojhbbendaaGreatDoor
open Go Go.Ev Go.RowKit
open Go.ChangeShapes Go.WideShapes Go.ChangeAt Go.WideMaps Go.WideElems
noncomputable section
def laidL : List (String × DataW Unit) := [("math/bits.deBruijn32tab", Rows.laid_math_bits_deBruijn32tab), ("math/bits.deBruijn64tab", Rows.laid_math_bits_deBruijn64tab), ("internal/strconv.uint64pow10", Rows.laid_internal_strconv_uint64pow10), ("unicode/utf8.acceptRanges", Rows.laid_unicode_utf8_acceptRanges), ("strconv.ErrRange", Rows.laid_strconv_ErrRange), ("strconv.ErrSyntax", Rows.laid_strconv_ErrSyntax), ("unicode/utf8.first", Rows.laid_unicode_utf8_first)]
/-- A cell of the world's own memory, as the evaluator has it. -/
def avOf : Value → Option AV
  | .int k n => some (.int k n)
  | .bool b => some (.bool b)
  | .string s => some (.str s.data.toList)
  | .slice none len cap => if len = 0 ∧ cap = 0 then some .snil else none
  | .slice (some a) len cap => if len = 0 then some .sempty else if a.spot = none ∧ len ≤ cap then some (.osl a.block a.off len cap) else none
  | _ => none
theorem avOf_rep {v : Value} {a : AV} (h : avOf v = some a) : a.one = true ∧ AV.beq a a = true ∧ (∀ cs, a ≠ .tuple cs) ∧ ∀ (G : Gh) (st : St) (w : World), Rep G st w a v := by
  cases v with
  | int k n => obtain rfl := Option.some.inj h; exact ⟨rfl, beq_int _ _, (fun _ e => by cases e), fun _ _ _ => by simp only [Rep]⟩
  | bool b => obtain rfl := Option.some.inj h; exact ⟨rfl, beq_bool _, (fun _ e => by cases e), fun _ _ _ => by simp only [Rep]⟩
  | string s => obtain rfl := Option.some.inj h; exact ⟨rfl, beq_str _, (fun _ e => by cases e), fun _ _ _ => by simp only [Rep]⟩
  | slice a len cap =>
    cases a with
    | none =>
      have h : (if len = 0 ∧ cap = 0 then some AV.snil else none) = some a := h
      split at h
      · rename_i e
        obtain ⟨rfl, rfl⟩ := e
        obtain rfl := Option.some.inj h
        exact ⟨rfl, rfl, (fun _ e => by cases e), fun _ _ _ => by simp only [Rep]⟩
      · cases h
    | some ad =>
      have h : (if len = 0 then some AV.sempty else if ad.spot = none ∧ len ≤ cap then some (.osl ad.block ad.off len cap) else none) = some a := h
      split at h
      · rename_i e
        subst e
        obtain rfl := Option.some.inj h
        exact ⟨rfl, rfl, (fun _ e => by cases e), fun _ _ _ => by simp only [Rep]; exact ⟨_, _, rfl⟩⟩
      · split at h
        · rename_i e
          obtain rfl := Option.some.inj h
          obtain ⟨ab, ao, sp⟩ := ad
          obtain ⟨e1, e2⟩ := e
          have e1 : sp = none := e1
          subst e1
          exact ⟨rfl, by simp [AV.beq], (fun _ e => by cases e), fun _ _ _ => by simp [Rep, e2]⟩
        · cases h
  | _ => cases h
/-- What is told of the world's own memory: a number of which nothing is told, and what stands there. -/
def oldW (W : World) : Nat → Nat → Option AV := fun b off => if b = 0 ∧ off = 0 then some (.resi .i64 1 0 (-9223372036854775808) 9223372036854775807) else (W.cell? ⟨b, off, none⟩).bind avOf
theorem oldW_at {W : World} {b off : Nat} {v : Value} {a : AV} (hc : W.cell? ⟨b, off, none⟩ = some v) (hn : ¬ (b = 0 ∧ off = 0)) (ha : avOf v = some a) : oldW W b off = some a := by
  unfold oldW
  rw [if_neg hn, hc]
  exact ha
theorem told_W {W : World} (hb : Go.RowKit.Below W.heap.size W W) {m : Int} (hm : W.cell? ⟨0, 0, none⟩ = some (.int .i64 m)) (hm1 : -9223372036854775808 ≤ m) (hm2 : m ≤ 9223372036854775807) :
    Inv W ⟨fun _ => none, fun _ => none⟩ ⟨.leaf, 0, oldW W⟩ W :=
  {
    below := hb
    blt := fun _ _ _ _ h => by cases h
    binj := fun _ _ _ _ _ _ _ h => by cases h
    bext := fun _ _ _ _ h => by cases h
    elt := fun _ _ _ _ h => by cases h
    ecell := fun _ _ _ _ _ h => by cases h
    bcell := fun _ _ _ _ _ _ _ h => by cases h
    bobj := fun _ _ _ _ _ h => by cases h
    fresh := fun id _ => by simp [Tr.get]
    old := fun b off a h => by
      change oldW W b off = some a at h
      unfold oldW at h
      split at h
      · rename_i hh
        obtain ⟨rfl, rfl⟩ := hh
        cases h
        refine ⟨World.block_lt_of_cell? _ _ hm, fun _ => ⟨_, hm, fun G st w => ?_⟩, fun cs hc => by cases hc⟩
        simp only [Rep]
        exact ⟨m, rfl, by omega, hm1, hm2⟩
      · obtain ⟨v, hc, ha⟩ := Option.bind_eq_some_iff.1 h
        obtain ⟨_, _, r3, r4⟩ := avOf_rep ha
        exact ⟨World.block_lt_of_cell? _ _ hc, fun _ => ⟨v, hc, r4⟩, fun cs e => absurd e (r3 cs)⟩ }
/-! ### Loads at the world's own memory -/
theorem ldG1 {T : TypeId} [L : LdTy C0.P T false 1] {st : St} {o : Nat → Nat → Option AV} {b off : Nat} {a : AV} (ho : st.old = o) (h : o b off = some a) (h1 : a.one = true) : loadAt C0.P st T (.glob b off) = some a := by
  simp only [loadAt, L.agg, L.size, Option.bind_some, cond_false, readAt, ho, oldCells, h, h1, cond_true, shaped]
theorem ldG6 {T : TypeId} [L : LdTy C0.P T true 6] {st : St} {o : Nat → Nat → Option AV} {b off : Nat} {a0 a1 a2 a3 a4 a5 : AV} (ho : st.old = o) (h0 : o b off = some a0) (h1 : o b (off + 1) = some a1) (h2 : o b (off + 1 + 1) = some a2) (h3 : o b (off + 1 + 1 + 1) = some a3) (h4 : o b (off + 1 + 1 + 1 + 1) = some a4) (h5 : o b (off + 1 + 1 + 1 + 1 + 1) = some a5)
    (e0 : a0.one = true) (e1 : a1.one = true) (e2 : a2.one = true) (e3 : a3.one = true) (e4 : a4.one = true) (e5 : a5.one = true) : loadAt C0.P st T (.glob b off) = some (.agg [a0, a1, a2, a3, a4, a5]) := by
  simp only [loadAt, L.agg, L.size, Option.bind_some, cond_true, readAt, ho, oldCells, h0, h1, h2, h3, h4, h5, e0, e1, e2, e3, e4, e5, shaped]
theorem ixO {t : TypeId} {sz : Nat} [T : SlTy C0.P t sz] {b o len cap i : Nat} (hi : i < len) : indexAddrOp C0.P t (.osl b o len cap) (.int .i64 (i : Int)) = some (.glob b (o + i * sz)) := by
  obtain ⟨e, bs, z, t1, t2, t3, t4, t5, t6, t7, t8⟩ := T.ok
  show (C0.P.underlying t).bind _ = _
  rw [t1]
  show (size? C0.P e).bind _ = _
  rw [t2]
  show cond _ _ _ = _
  rw [condT (show Nat.blt i len = true from Nat.ble_eq_true_of_le hi)]
instance s22 : SlTy C0.P 22 1 := ⟨⟨9, 16, .str [], by kernel_rfl, by kernel_rfl, by kernel_rfl, by kernel_rfl, by omega, by omega, by kernel_rfl, by kernel_rfl⟩⟩
theorem spot_none {W : World} {a : Addr} {v : Value} (h : W.cell? a = some v) : a.spot = none := by
  unfold World.cell? at h
  split at h
  · split at h
    · cases h
    · rename_i hs
      simpa using hs
  · cases h
theorem add_at {a : Addr} (h : a.spot = none) (i : Nat) : a.add i = ⟨a.block, a.off + i, none⟩ := by
  obtain ⟨b, o, s⟩ := a
  have h : s = none := h
  subst h
  unfold Addr.add
  split
  · rename_i e; subst e; rfl
  · rfl
theorem cutO {b o len cap m : Nat} (hm : m ≤ cap) (st : St) : sliceSt C0.P st 22 (.osl b o len cap) none (some (.int .i64 (m : Int))) none = some (.osl b o m cap) := by
  obtain ⟨e, bs, z, t1, t2, t3, t4, t5, t6, t7, t8⟩ := (inferInstance : SlTy C0.P 22 1).ok
  show sliceOp C0.P 22 (.osl b o len cap) none (some (.int .i64 (m : Int))) none = _
  have e1 : within (.int .i64 (m : Int)) cap = some m := by
    show cond (Nat.ble m cap) (some m) none = _
    rw [condT (Nat.ble_eq_true_of_le hm)]
  simp only [sliceOp, t1, Option.bind_some, t2, bounds, mxOf, hiOf, loOf, e1]
  simp
section
variable {H : Type} {enc : TypeId × Value → H} {W : World} {m : Int} (h00 : W.cell? ⟨0, 0, none⟩ = some (.int .i64 m)) (h01 : W.cell? ⟨0, 1, none⟩ = none)
include h00 in
theorem open_names {fuel : Nat} {c : Value} {x : DataW H × List MemPlace} (h : DataW.trod enc Tryz.prog W 0 (fun _ => true) true fuel 22 [c] = some x) :
    ∃ nx names, avOf c = some nx ∧ RNo (oldW W) nx names ∧ ∀ q ∈ names, q.length ≤ 9223372036854775807 := by
  rcases open_strings Tryz.underlying22 Tryz.underlying9 (show Tryz.prog.cellsOf 9 = 1 by kernel_rfl) h with ⟨hcs, hx⟩ | ⟨a, len, cap, ss, hcs, _, hl, hm, hz, hx, hcell, hsz⟩
  · simp only [List.cons.injEq, and_true] at hcs
    subst hcs
    exact ⟨.snil, [], rfl, ⟨⟨rfl, rfl, fun i hi => absurd hi (Nat.not_lt_zero _), rfl⟩, fun q h1 h2 => absurd h1 (by simp at h2; omega)⟩, fun q hq => by cases hq⟩
  · simp only [List.cons.injEq, and_true] at hcs
    subst hcs
    have hn : ss.length = cap := by simpa using hz
    by_cases h0 : len = 0
    · subst h0
      exact ⟨.sempty, [], (by show (if (0 : Nat) = 0 then some AV.sempty else if a.spot = none ∧ 0 ≤ cap then some (AV.osl a.block a.off 0 cap) else none) = _; rw [if_pos rfl]), ⟨⟨rfl, rfl, fun i hi => absurd hi (Nat.not_lt_zero _), rfl⟩, fun q h1 h2 => absurd h1 (by simp at h2; omega)⟩, fun q hq => by cases hq⟩
    · have hsp : a.spot = none := by
        have := hcell 0 (by omega)
        exact spot_none (a := a) (by simpa [Addr.add] using this)
      have hc : ∀ i, i < cap → oldW W a.block (a.off + i) = some (.str (ss.getD i ByteArray.empty).data.toList) := fun i hi => by
        have := hcell i (by omega)
        rw [add_at hsp] at this
        refine oldW_at this (fun e => ?_) rfl
        rw [e.1, e.2, h00] at this
        cases this
      have row : ∀ q, q ≤ cap → RN (oldW W) (.osl a.block a.off q cap) ((List.range q).map fun i => (ss.getD i ByteArray.empty).data.toList) := fun q hq => by
        refine ⟨rfl, by simp [lenOf], fun i hi => ?_, by simp [AV.beq]⟩
        have hi' : i < q := by simpa using hi
        refine ⟨_, ixO hi', fun st hst => ?_⟩
        rw [Nat.mul_one]
        refine (ldG1 hst (hc i (by omega)) rfl).trans ?_
        simp
      refine ⟨.osl a.block a.off len cap, (List.range len).map fun i => (ss.getD i ByteArray.empty).data.toList, ?_, ⟨row len hl, fun q h1 h2 st hst => ?_⟩, fun q hq => ?_⟩
      · show (if len = 0 then some AV.sempty else if a.spot = none ∧ len ≤ cap then some (.osl a.block a.off len cap) else none) = _
        rw [if_neg h0, if_pos ⟨hsp, hl⟩]
      · have h2 : q ≤ len := by simpa using h2
        refine ⟨_, cutO (by omega) st, ?_⟩
        rw [← List.map_take, List.take_range, Nat.min_eq_left h2]
        exact row q (by omega)
      · obtain ⟨i, hi, rfl⟩ := List.mem_map.1 hq
        have hi : i < len := by simpa using hi
        have hlt : i < ss.length := by omega
        have := hsz _ (List.getElem_mem hlt)
        have e0 : ss.getD i ByteArray.empty = ss[i] := by simp [List.getD, List.getElem?_eq_getElem hlt]
        rw [e0]
        have e : (ss[i]).data.toList.length = (ss[i]).size := by simp
        rw [e]
        exact this
theorem list_of {α : Type} {Q : Nat → α → Prop} : ∀ n, (∀ i, i < n → ∃ v, Q i v) → ∃ l : List α, l.length = n ∧ ∀ (i : Nat) (h : i < l.length), Q i l[i]
  | 0, _ => ⟨[], rfl, fun i h => absurd h (Nat.not_lt_zero _)⟩
  | n + 1, h => by
    obtain ⟨l, e, hl⟩ := list_of n fun i hi => h i (Nat.lt_succ_of_lt hi)
    obtain ⟨v, hv⟩ := h n (Nat.lt_succ_self n)
    refine ⟨l ++ [v], by simp [e], fun i hi => ?_⟩
    rcases Nat.lt_or_ge i l.length with h1 | h1
    · rw [List.getElem_append_left h1]; exact hl i h1
    · have : i = l.length := by simp at hi; omega
      subst this
      simp only [List.getElem_append_right (Nat.le_refl _), Nat.sub_self, List.getElem_cons_zero]
      rw [e]
      exact hv
theorem BdL_of : ∀ {l : List Vt}, (∀ p ∈ l, Bd p) → BdL l
  | [], _ => by simp only [BdL]
  | v :: l, h => by
    simp only [BdL]
    exact ⟨h v List.mem_cons_self, BdL_of fun p hp => h p (List.mem_cons_of_mem _ hp)⟩
/-- A value, by the cells that it is told by. -/
def Opened (W : World) (cs : List Value) : Prop := ∃ (k : Int) (b : Bool) (n : Int) (sb : ByteArray) (c4 c5 : Value) (px nx : AV) (parts : List Vt) (names : List (List UInt8)), cs = [.int .i64 k, .bool b, .int .i64 n, .string sb, c4, c5] ∧ avOf c4 = some px ∧ avOf c5 = some nx ∧
  RV (RNo (oldW W)) 23 25 (oldW W) (.mk k b n sb.data.toList parts names) [.int .i64 k, .bool b, .int .i64 n, .str sb.data.toList, px, nx] ∧ Bd (.mk k b n sb.data.toList parts names)
include h00 h01 in
theorem open_value : ∀ (fuel : Nat) (cs : List Value) (x : DataW H × List MemPlace), DataW.trod enc Tryz.prog W 0 (fun _ => true) true fuel 25 cs = some x → Opened W cs := by
  intro fuel
  induction fuel using Nat.strongRecOn with
  | ind fuel ih =>
    intro cs x h
    obtain ⟨xs, n0, hfuel, hx, hlen, hxl, hget⟩ := DataW.trod_struct Tryz.underlying25 h
    have c25 : Tryz.prog.cellsOf 25 = 6 := by kernel_rfl
    have c3 : Tryz.prog.cellsOf 3 = 1 := by kernel_rfl
    have c4' : Tryz.prog.cellsOf 4 = 1 := by kernel_rfl
    have c2 : Tryz.prog.cellsOf 2 = 1 := by kernel_rfl
    have c9 : Tryz.prog.cellsOf 9 = 1 := by kernel_rfl
    have c23 : Tryz.prog.cellsOf 23 = 1 := by kernel_rfl
    have c22 : Tryz.prog.cellsOf 22 = 1 := by kernel_rfl
    rw [c25] at hlen
    have hxl : xs.length = 6 := hxl
    match cs, hlen with
    | [v0, v1, v2, v3, v4, v5], _ =>
      have g0 : DataW.trod enc Tryz.prog W 0 (fun _ => true) true n0 3 ((([v0, v1, v2, v3, v4, v5] : List Value).drop 0).take (Tryz.prog.cellsOf 3)) = xs[0]? := hget 0 _ rfl
      rw [c3] at g0
      have g1 : DataW.trod enc Tryz.prog W 0 (fun _ => true) true n0 4 ((([v0, v1, v2, v3, v4, v5] : List Value).drop 1).take (Tryz.prog.cellsOf 4)) = xs[1]? := hget 1 _ rfl
      rw [c4'] at g1
      have g2 : DataW.trod enc Tryz.prog W 0 (fun _ => true) true n0 2 ((([v0, v1, v2, v3, v4, v5] : List Value).drop 2).take (Tryz.prog.cellsOf 2)) = xs[2]? := hget 2 _ rfl
      rw [c2] at g2
      have g3 : DataW.trod enc Tryz.prog W 0 (fun _ => true) true n0 9 ((([v0, v1, v2, v3, v4, v5] : List Value).drop 3).take (Tryz.prog.cellsOf 9)) = xs[3]? := hget 3 _ rfl
      rw [c9] at g3
      have g4 : DataW.trod enc Tryz.prog W 0 (fun _ => true) true n0 23 ((([v0, v1, v2, v3, v4, v5] : List Value).drop 4).take (Tryz.prog.cellsOf 23)) = xs[4]? := hget 4 _ rfl
      rw [c23] at g4
      have g5 : DataW.trod enc Tryz.prog W 0 (fun _ => true) true n0 22 ((([v0, v1, v2, v3, v4, v5] : List Value).drop 5).take (Tryz.prog.cellsOf 22)) = xs[5]? := hget 5 _ rfl
      rw [c22] at g5
      rw [List.getElem?_eq_getElem (by omega)] at g0 g1 g2 g3 g4 g5
      obtain ⟨k, e0, _, wk⟩ := DataW.trod_int Tryz.underlying3 g0
      obtain ⟨b, e1, _⟩ := DataW.trod_bool Tryz.underlying4 g1
      obtain ⟨n, e2, _, wn⟩ := DataW.trod_int Tryz.underlying2 g2
      obtain ⟨sb, e3, _, ws⟩ := DataW.trod_string Tryz.underlying9 g3
      simp at e0 e1 e2 e3
      subst e0 e1 e2 e3
      have g4 : DataW.trod enc Tryz.prog W 0 (fun _ => true) true n0 23 [v4] = _ := g4
      have g5 : DataW.trod enc Tryz.prog W 0 (fun _ => true) true n0 22 [v5] = _ := g5
      obtain ⟨nx, names, hn1, hn2, hn3⟩ := open_names h00 g5
      have bk := bounds_i64 wk
      have bn := bounds_i64 wn
      rcases DataW.trod_slice Tryz.underlying23 g4 with ⟨hs, _⟩ | ⟨a, len, cap, elems, rest, n1, hf1, hs, _, _, hl, hmx, hel, helm, _, _⟩
      · simp only [List.cons.injEq, and_true] at hs
        subst hs
        refine ⟨k, b, n, sb, _, v5, .snil, nx, [], names, rfl, rfl, hn1, RV_ns rfl hn2 rfl (by simp only [RPs]), ?_⟩
        simp only [Bd, BdL]
        exact ⟨bk.1, bk.2, bn.1, bn.2, hn3, trivial⟩
      · simp only [List.cons.injEq, and_true] at hs
        subst hs
        by_cases h0 : len = 0
        · subst h0
          refine ⟨k, b, n, sb, _, v5, .sempty, nx, [], names, rfl, (by show (if (0 : Nat) = 0 then some AV.sempty else if a.spot = none ∧ 0 ≤ cap then some (AV.osl a.block a.off 0 cap) else none) = _; rw [if_pos rfl]), hn1, RV_ns rfl hn2 rfl (by simp only [RPs]), ?_⟩
          simp only [Bd, BdL]
          exact ⟨bk.1, bk.2, bn.1, bn.2, hn3, trivial⟩
        · have hi6 : ∀ i, i < len → ∃ cs', W.cells? 0 (a.add (i * 6)) 6 = some cs' ∧ Opened W cs' := fun i hi => by
            have := helm i hi
            rw [c25, List.getElem?_eq_getElem (by omega)] at this
            obtain ⟨cs', q1, q2⟩ := Option.bind_eq_some_iff.1 this
            exact ⟨cs', q1, ih n1 (by omega) cs' _ q2⟩
          have hsp : a.spot = none := by
            obtain ⟨cs', q1, _⟩ := hi6 0 (by omega)
            obtain ⟨_, r2, r3⟩ := World.cells?_some q1
            have := r3 0 (by decide)
            rw [List.getElem?_eq_getElem (by omega)] at this
            exact spot_none (a := a) (by simpa [Addr.add] using this)
          have hQ : ∀ i, i < len → ∃ v : Vt, (∃ cs : List AV, (∀ st : St, st.old = oldW W → loadAt C0.P st 25 (.glob a.block (a.off + i * 6)) = some (.agg cs)) ∧ RV (RNo (oldW W)) 23 25 (oldW W) v cs) ∧ Bd v := fun i hi => by
            obtain ⟨cs', q1, k', b', n', sb', c4, c5, px', nx', parts', names', rfl, a4, a5, hrv, hbd⟩ := hi6 i hi
            obtain ⟨_, _, r3⟩ := World.cells?_some q1
            rw [add_at hsp] at r3
            have hc : ∀ j, j < 6 → W.cell? ⟨a.block, a.off + i * 6 + j, none⟩ = [Value.int .i64 k', .bool b', .int .i64 n', .string sb', c4, c5][j]? := fun j hj => by
              have := r3 j hj
              rw [add_at rfl] at this
              exact this
            have h1 := hc 1 (by decide)
            have hne : ∀ j, ¬ (a.block = 0 ∧ a.off + i * 6 + j = 0) := fun j e => by
              have e2 : a.off + i * 6 = 0 := by omega
              rw [e.1, e2, Nat.zero_add, h01] at h1
              cases h1
            refine ⟨_, ⟨_, fun st hst => ldG6 hst (oldW_at (hc 0 (by decide)) (hne 0) rfl) (oldW_at (hc 1 (by decide)) (hne 1) rfl) (oldW_at (hc 2 (by decide)) (hne 2) rfl) (oldW_at (hc 3 (by decide)) (hne 3) rfl) (oldW_at (hc 4 (by decide)) (hne 4) a4) (oldW_at (hc 5 (by decide)) (hne 5) a5) rfl rfl rfl rfl (avOf_rep a4).1 (avOf_rep a5).1, hrv⟩, hbd⟩
          obtain ⟨parts, hpl, hpq⟩ := list_of len hQ
          refine ⟨k, b, n, sb, _, v5, .osl a.block a.off len cap, nx, parts, names, rfl, ?_, hn1, RV_ns rfl hn2 (by rw [hpl]; rfl) (RPs_put fun i hi => ?_), ?_⟩
          · show (if len = 0 then some AV.sempty else if a.spot = none ∧ len ≤ cap then some (.osl a.block a.off len cap) else none) = _
            rw [if_neg h0, if_pos ⟨hsp, hl⟩]
          · obtain ⟨⟨cs', q1, q2⟩, _⟩ := hpq i hi
            rw [Nat.zero_add]
            exact ⟨_, cs', ixO (by omega), q1, q2⟩
          · simp only [Bd]
            refine ⟨bk.1, bk.2, bn.1, bn.2, hn3, BdL_of fun p hp => ?_⟩
            obtain ⟨i, hi, rfl⟩ := List.mem_iff_getElem.1 hp
            exact (hpq i hi).2
end
open Classical in
/-- Whatever the arguments are: the call answers true, and nothing older is turned. -/
theorem walk {W : World} {c0 c1 : Array Value} (o0 : Opened W c0.toList) (o1 : Opened W c1.toList) (a2 : ByteArray) {m : Int} (hm : W.cell? ⟨0, 0, none⟩ = some (.int .i64 m)) (hm1 : -9223372036854775808 ≤ m) (hm2 : m ≤ 9223372036854775807) :
    Calls Tryz.prog 7 #[.agg c0, .agg c1, .string a2] W fun e W' => e = .returned (.bool true) ∧ Go.RowKit.Below W.heap.size W W' := by
  have I := told_W (Go.RowKit.Below.refl _ _) hm hm1 hm2
  obtain ⟨k, b, n, sb, c4, c5, px, nx, parts, names, e0, q1, q2, q3, q4⟩ := o0
  obtain ⟨k', b', n', sb', c4', c5', px', nx', parts', names', e1, t1, t2, t3, t4⟩ := o1
  have hO : isNum (oldW W 0 0) = true := by unfold oldW; rw [if_pos ⟨rfl, rfl⟩]; rfl
  obtain ⟨A1, A2, _, A3⟩ := avOf_rep q1
  obtain ⟨B1, B2, _, B3⟩ := avOf_rep q2
  obtain ⟨D1, D2, _, D3⟩ := avOf_rep t1
  obtain ⟨E1, E2, _, E3⟩ := avOf_rep t2
  obtain ⟨⟨r1, r2⟩, h, hr⟩ := planSpans_s (R := 18446744073709551616) (Nat.le_refl _) hO q4 t4 q3 t3 A1 B1 D1 E1 D2 E2 (sg := a2.data.toList) (st := ⟨.leaf, 0, oldW W⟩) rfl (φ := fun r => r.1 = true) (fun _ => rfl)
  have hr : r1 = true := hr
  subst hr
  obtain ⟨p, hc⟩ := parchmentlaw19_PlanSpans_ok 18446744073709551616 0 _ _ _ _ _ _ _ _ _ _ _ _ _ _ _ h
  have h2 : callK C0 ext0 18446744073709551616 (0 + 16005) false 7 [(.agg [(.int .i64 k), (.bool b), (.int .i64 n), (.str sb.data.toList), px, nx]), (.agg [(.int .i64 k'), (.bool b'), (.int .i64 n'), (.str sb'.data.toList), px', nx']), (.str a2.data.toList)] ⟨.leaf, 0, oldW W⟩ (fun _ v' _ => decide (v' = .bool true)) = true := by rw [hc]; exact decide_eq_true rfl
  have R0 : ∀ (G : Gh) (st : St) (w : World), Rep G st w (.agg [(.int .i64 k), (.bool b), (.int .i64 n), (.str sb.data.toList), px, nx]) (.agg c0) := fun G st w => by
    simp only [Rep]
    refine ⟨c0, rfl, ?_⟩
    rw [e0]
    exact RepL.cons (by simp only [Rep]) (RepL.cons (by simp only [Rep]) (RepL.cons (by simp only [Rep]) (RepL.cons (by simp only [Rep]) (RepL.cons (A3 _ _ _) (RepL.cons (B3 _ _ _) RepL.nil)))))
  have R1 : ∀ (G : Gh) (st : St) (w : World), Rep G st w (.agg [(.int .i64 k'), (.bool b'), (.int .i64 n'), (.str sb'.data.toList), px', nx']) (.agg c1) := fun G st w => by
    simp only [Rep]
    refine ⟨c1, rfl, ?_⟩
    rw [e1]
    exact RepL.cons (by simp only [Rep]) (RepL.cons (by simp only [Rep]) (RepL.cons (by simp only [Rep]) (RepL.cons (by simp only [Rep]) (RepL.cons (D3 _ _ _) (RepL.cons (E3 _ _ _) RepL.nil)))))
  rcases (call_sound (C := C0) (W0 := W) mixed0 ext0_ok mext0 18446744073709551616 _).1 7 _ _ _ h2 _ W #[.agg c0, .agg c1, .string a2] I (RepL.cons (R0 _ _ _) (RepL.cons (R1 _ _ _) (RepL.cons (by simp only [Rep]) RepL.nil))) with ⟨u, w', v, st', G', c1, _⟩ | ⟨_, c2, _⟩
  · exact (hasBody_enter (by kernel_rfl) c1).elim
  · refine Calls.mono (callsIn_wide.1 c2) fun e w' he => ?_
    obtain ⟨u, v, st', G', rfl, hk, hg, hr⟩ := he
    simp only [Bool.or_self] at hk
    have := of_decide_eq_true hk
    subst this
    simp only [Rep] at hr
    subst hr
    exact ⟨rfl, hg.inv.below⟩
end
end Go.Proofs.YthodfojhbbendaaGreatDoor
