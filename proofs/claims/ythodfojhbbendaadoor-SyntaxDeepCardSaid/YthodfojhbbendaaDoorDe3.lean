/- SyntaxDeep: the evaluator's yes at each pair of residues, part 3. -/
import Derived.Test.YthodfojhbbendaaDoorGo
namespace Go.Proofs.YthodfojhbbendaaDoor
open Go Go.Ev
theorem deep2at0 : (List.range 4).all (fun i => deep (Int.ofNat (0 + i)) 2) = true := by kernel_rfl
theorem deep2at4 : (List.range 4).all (fun i => deep (Int.ofNat (4 + i)) 2) = true := by kernel_rfl
theorem deep2at8 : (List.range 4).all (fun i => deep (Int.ofNat (8 + i)) 2) = true := by kernel_rfl
theorem deep2at12 : (List.range 4).all (fun i => deep (Int.ofNat (12 + i)) 2) = true := by kernel_rfl
theorem deep2at16 : (List.range 3).all (fun i => deep (Int.ofNat (16 + i)) 2) = true := by kernel_rfl
theorem deep2at19 : (List.range 3).all (fun i => deep (Int.ofNat (19 + i)) 2) = true := by kernel_rfl
theorem deep2at22 : (List.range 3).all (fun i => deep (Int.ofNat (22 + i)) 2) = true := by kernel_rfl
theorem deep2at25 : (List.range 2).all (fun i => deep (Int.ofNat (25 + i)) 2) = true := by kernel_rfl
theorem deep2at27 : (List.range 2).all (fun i => deep (Int.ofNat (27 + i)) 2) = true := by kernel_rfl
theorem deep2at29 : (List.range 2).all (fun i => deep (Int.ofNat (29 + i)) 2) = true := by kernel_rfl
theorem deep2at31 : (List.range 2).all (fun i => deep (Int.ofNat (31 + i)) 2) = true := by kernel_rfl
theorem deep2at33 : (List.range 2).all (fun i => deep (Int.ofNat (33 + i)) 2) = true := by kernel_rfl
theorem deep2at35 : (List.range 2).all (fun i => deep (Int.ofNat (35 + i)) 2) = true := by kernel_rfl
theorem deep2at37 : (List.range 2).all (fun i => deep (Int.ofNat (37 + i)) 2) = true := by kernel_rfl
theorem deep2at39 : (List.range 2).all (fun i => deep (Int.ofNat (39 + i)) 2) = true := by kernel_rfl
theorem deep2at41 : (List.range 2).all (fun i => deep (Int.ofNat (41 + i)) 2) = true := by kernel_rfl
theorem deep2at43 : (List.range 2).all (fun i => deep (Int.ofNat (43 + i)) 2) = true := by kernel_rfl
theorem deep2at45 : (List.range 2).all (fun i => deep (Int.ofNat (45 + i)) 2) = true := by kernel_rfl
theorem deep2at47 : (List.range 2).all (fun i => deep (Int.ofNat (47 + i)) 2) = true := by kernel_rfl
theorem deep2at49 : (List.range 2).all (fun i => deep (Int.ofNat (49 + i)) 2) = true := by kernel_rfl
theorem deep2at51 : (List.range 2).all (fun i => deep (Int.ofNat (51 + i)) 2) = true := by kernel_rfl
theorem deep2at53 : (List.range 2).all (fun i => deep (Int.ofNat (53 + i)) 2) = true := by kernel_rfl
theorem deep2at55 : (List.range 2).all (fun i => deep (Int.ofNat (55 + i)) 2) = true := by kernel_rfl
theorem deep2at57 : (List.range 2).all (fun i => deep (Int.ofNat (57 + i)) 2) = true := by kernel_rfl
theorem deep2at59 : (List.range 2).all (fun i => deep (Int.ofNat (59 + i)) 2) = true := by kernel_rfl
theorem deep2at61 : (List.range 2).all (fun i => deep (Int.ofNat (61 + i)) 2) = true := by kernel_rfl
theorem deep2at63 : (List.range 1).all (fun i => deep (Int.ofNat (63 + i)) 2) = true := by kernel_rfl
theorem deep2 (r : Int) (h : 0 ≤ r ∧ r < 64) : deep r 2 = true := by
  have key : ∀ n w : Nat, (List.range w).all (fun i => deep (Int.ofNat (n + i)) 2) = true → (n : Int) ≤ r → r < (n + w : Nat) → deep r 2 = true := fun n w h h1 h2 => by
    have := List.all_eq_true.1 h (r.toNat - n) (List.mem_range.2 (by omega))
    rwa [show Int.ofNat (n + (r.toNat - n)) = r by simp only [Int.ofNat_eq_natCast]; omega] at this
  rcases Int.lt_or_le r 4 with h0 | h0
  · exact key 0 4 deep2at0 (by omega) (by omega)
  rcases Int.lt_or_le r 8 with h4 | h4
  · exact key 4 4 deep2at4 (by omega) (by omega)
  rcases Int.lt_or_le r 12 with h8 | h8
  · exact key 8 4 deep2at8 (by omega) (by omega)
  rcases Int.lt_or_le r 16 with h12 | h12
  · exact key 12 4 deep2at12 (by omega) (by omega)
  rcases Int.lt_or_le r 19 with h16 | h16
  · exact key 16 3 deep2at16 (by omega) (by omega)
  rcases Int.lt_or_le r 22 with h19 | h19
  · exact key 19 3 deep2at19 (by omega) (by omega)
  rcases Int.lt_or_le r 25 with h22 | h22
  · exact key 22 3 deep2at22 (by omega) (by omega)
  rcases Int.lt_or_le r 27 with h25 | h25
  · exact key 25 2 deep2at25 (by omega) (by omega)
  rcases Int.lt_or_le r 29 with h27 | h27
  · exact key 27 2 deep2at27 (by omega) (by omega)
  rcases Int.lt_or_le r 31 with h29 | h29
  · exact key 29 2 deep2at29 (by omega) (by omega)
  rcases Int.lt_or_le r 33 with h31 | h31
  · exact key 31 2 deep2at31 (by omega) (by omega)
  rcases Int.lt_or_le r 35 with h33 | h33
  · exact key 33 2 deep2at33 (by omega) (by omega)
  rcases Int.lt_or_le r 37 with h35 | h35
  · exact key 35 2 deep2at35 (by omega) (by omega)
  rcases Int.lt_or_le r 39 with h37 | h37
  · exact key 37 2 deep2at37 (by omega) (by omega)
  rcases Int.lt_or_le r 41 with h39 | h39
  · exact key 39 2 deep2at39 (by omega) (by omega)
  rcases Int.lt_or_le r 43 with h41 | h41
  · exact key 41 2 deep2at41 (by omega) (by omega)
  rcases Int.lt_or_le r 45 with h43 | h43
  · exact key 43 2 deep2at43 (by omega) (by omega)
  rcases Int.lt_or_le r 47 with h45 | h45
  · exact key 45 2 deep2at45 (by omega) (by omega)
  rcases Int.lt_or_le r 49 with h47 | h47
  · exact key 47 2 deep2at47 (by omega) (by omega)
  rcases Int.lt_or_le r 51 with h49 | h49
  · exact key 49 2 deep2at49 (by omega) (by omega)
  rcases Int.lt_or_le r 53 with h51 | h51
  · exact key 51 2 deep2at51 (by omega) (by omega)
  rcases Int.lt_or_le r 55 with h53 | h53
  · exact key 53 2 deep2at53 (by omega) (by omega)
  rcases Int.lt_or_le r 57 with h55 | h55
  · exact key 55 2 deep2at55 (by omega) (by omega)
  rcases Int.lt_or_le r 59 with h57 | h57
  · exact key 57 2 deep2at57 (by omega) (by omega)
  rcases Int.lt_or_le r 61 with h59 | h59
  · exact key 59 2 deep2at59 (by omega) (by omega)
  rcases Int.lt_or_le r 63 with h61 | h61
  · exact key 61 2 deep2at61 (by omega) (by omega)
  exact key 63 1 deep2at63 (by omega) (by omega)
end Go.Proofs.YthodfojhbbendaaDoor
