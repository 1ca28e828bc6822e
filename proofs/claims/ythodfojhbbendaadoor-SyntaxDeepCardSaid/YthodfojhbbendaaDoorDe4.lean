/- SyntaxDeep: the evaluator's yes at each pair of residues, part 4. -/
import Derived.Test.YthodfojhbbendaaDoorGo
namespace Go.Proofs.YthodfojhbbendaaDoor
open Go Go.Ev
theorem deep3at0 : (List.range 4).all (fun i => deep (Int.ofNat (0 + i)) 3) = true := by kernel_rfl
theorem deep3at4 : (List.range 4).all (fun i => deep (Int.ofNat (4 + i)) 3) = true := by kernel_rfl
theorem deep3at8 : (List.range 4).all (fun i => deep (Int.ofNat (8 + i)) 3) = true := by kernel_rfl
theorem deep3at12 : (List.range 4).all (fun i => deep (Int.ofNat (12 + i)) 3) = true := by kernel_rfl
theorem deep3at16 : (List.range 3).all (fun i => deep (Int.ofNat (16 + i)) 3) = true := by kernel_rfl
theorem deep3at19 : (List.range 3).all (fun i => deep (Int.ofNat (19 + i)) 3) = true := by kernel_rfl
theorem deep3at22 : (List.range 3).all (fun i => deep (Int.ofNat (22 + i)) 3) = true := by kernel_rfl
theorem deep3at25 : (List.range 3).all (fun i => deep (Int.ofNat (25 + i)) 3) = true := by kernel_rfl
theorem deep3at28 : (List.range 3).all (fun i => deep (Int.ofNat (28 + i)) 3) = true := by kernel_rfl
theorem deep3at31 : (List.range 3).all (fun i => deep (Int.ofNat (31 + i)) 3) = true := by kernel_rfl
theorem deep3at34 : (List.range 3).all (fun i => deep (Int.ofNat (34 + i)) 3) = true := by kernel_rfl
theorem deep3at37 : (List.range 3).all (fun i => deep (Int.ofNat (37 + i)) 3) = true := by kernel_rfl
theorem deep3at40 : (List.range 3).all (fun i => deep (Int.ofNat (40 + i)) 3) = true := by kernel_rfl
theorem deep3at43 : (List.range 3).all (fun i => deep (Int.ofNat (43 + i)) 3) = true := by kernel_rfl
theorem deep3at46 : (List.range 3).all (fun i => deep (Int.ofNat (46 + i)) 3) = true := by kernel_rfl
theorem deep3at49 : (List.range 3).all (fun i => deep (Int.ofNat (49 + i)) 3) = true := by kernel_rfl
theorem deep3at52 : (List.range 3).all (fun i => deep (Int.ofNat (52 + i)) 3) = true := by kernel_rfl
theorem deep3at55 : (List.range 3).all (fun i => deep (Int.ofNat (55 + i)) 3) = true := by kernel_rfl
theorem deep3at58 : (List.range 3).all (fun i => deep (Int.ofNat (58 + i)) 3) = true := by kernel_rfl
theorem deep3at61 : (List.range 3).all (fun i => deep (Int.ofNat (61 + i)) 3) = true := by kernel_rfl
theorem deep3 (r : Int) (h : 0 ≤ r ∧ r < 64) : deep r 3 = true := by
  have key : ∀ n w : Nat, (List.range w).all (fun i => deep (Int.ofNat (n + i)) 3) = true → (n : Int) ≤ r → r < (n + w : Nat) → deep r 3 = true := fun n w h h1 h2 => by
    have := List.all_eq_true.1 h (r.toNat - n) (List.mem_range.2 (by omega))
    rwa [show Int.ofNat (n + (r.toNat - n)) = r by simp only [Int.ofNat_eq_natCast]; omega] at this
  rcases Int.lt_or_le r 4 with h0 | h0
  · exact key 0 4 deep3at0 (by omega) (by omega)
  rcases Int.lt_or_le r 8 with h4 | h4
  · exact key 4 4 deep3at4 (by omega) (by omega)
  rcases Int.lt_or_le r 12 with h8 | h8
  · exact key 8 4 deep3at8 (by omega) (by omega)
  rcases Int.lt_or_le r 16 with h12 | h12
  · exact key 12 4 deep3at12 (by omega) (by omega)
  rcases Int.lt_or_le r 19 with h16 | h16
  · exact key 16 3 deep3at16 (by omega) (by omega)
  rcases Int.lt_or_le r 22 with h19 | h19
  · exact key 19 3 deep3at19 (by omega) (by omega)
  rcases Int.lt_or_le r 25 with h22 | h22
  · exact key 22 3 deep3at22 (by omega) (by omega)
  rcases Int.lt_or_le r 28 with h25 | h25
  · exact key 25 3 deep3at25 (by omega) (by omega)
  rcases Int.lt_or_le r 31 with h28 | h28
  · exact key 28 3 deep3at28 (by omega) (by omega)
  rcases Int.lt_or_le r 34 with h31 | h31
  · exact key 31 3 deep3at31 (by omega) (by omega)
  rcases Int.lt_or_le r 37 with h34 | h34
  · exact key 34 3 deep3at34 (by omega) (by omega)
  rcases Int.lt_or_le r 40 with h37 | h37
  · exact key 37 3 deep3at37 (by omega) (by omega)
  rcases Int.lt_or_le r 43 with h40 | h40
  · exact key 40 3 deep3at40 (by omega) (by omega)
  rcases Int.lt_or_le r 46 with h43 | h43
  · exact key 43 3 deep3at43 (by omega) (by omega)
  rcases Int.lt_or_le r 49 with h46 | h46
  · exact key 46 3 deep3at46 (by omega) (by omega)
  rcases Int.lt_or_le r 52 with h49 | h49
  · exact key 49 3 deep3at49 (by omega) (by omega)
  rcases Int.lt_or_le r 55 with h52 | h52
  · exact key 52 3 deep3at52 (by omega) (by omega)
  rcases Int.lt_or_le r 58 with h55 | h55
  · exact key 55 3 deep3at55 (by omega) (by omega)
  rcases Int.lt_or_le r 61 with h58 | h58
  · exact key 58 3 deep3at58 (by omega) (by omega)
  exact key 61 3 deep3at61 (by omega) (by omega)
end Go.Proofs.YthodfojhbbendaaDoor
