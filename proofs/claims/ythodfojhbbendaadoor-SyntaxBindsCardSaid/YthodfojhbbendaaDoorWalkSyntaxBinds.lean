/- SyntaxBinds: whatever the two numbers are, the call answers true, and nothing older is turned. -/
import Derived.Test.YthodfojhbbendaaDoorBi1
import Derived.Test.YthodfojhbbendaaDoorBi2
namespace Go.Proofs.YthodfojhbbendaaDoor.syntaxBinds
open Go Go.Ev Go.RowKit

theorem all (r s : Int) (hr : 0 ≤ r ∧ r < 11) (hs : 0 ≤ s ∧ s < 11) : binds r s = true := by
  have key : ∀ r : Int, (List.range 11).all (fun s => binds r (Int.ofNat s)) = true → binds r s = true := fun r h => by
    have := List.all_eq_true.1 h s.toNat (List.mem_range.2 (by omega))
    rwa [show Int.ofNat s.toNat = s from Int.toNat_of_nonneg hs.1] at this
  have : r = 0 ∨ r = 1 ∨ r = 2 ∨ r = 3 ∨ r = 4 ∨ r = 5 ∨ r = 6 ∨ r = 7 ∨ r = 8 ∨ r = 9 ∨ r = 10 := by omega
  rcases this with rfl | rfl | rfl | rfl | rfl | rfl | rfl | rfl | rfl | rfl | rfl
  · exact key 0 binds0
  · exact key 1 binds1
  · exact key 2 binds2
  · exact key 3 binds3
  · exact key 4 binds4
  · exact key 5 binds5
  · exact key 6 binds6
  · exact key 7 binds7
  · exact key 8 binds8
  · exact key 9 binds9
  · exact key 10 binds10

theorem walk (a b : Int) (wa : (Lit.int .i64 a).wf = true) (wb : (Lit.int .i64 b).wf = true) (W : World) :
    Calls Tryd.prog 3 #[.int .i64 a, .int .i64 b] W fun e W' => e = .returned (.bool true) ∧ Below W.heap.size W W' := by
  have h := all (a % 11) (b % 11) ⟨by omega, by omega⟩ ⟨by omega, by omega⟩
  unfold binds go at h
  exact run0_true ext1_ok W (fun _ _ _ => RepL.cons (full_rep wa _ _ _) (RepL.cons (full_rep wb _ _ _) RepL.nil)) h (by rfl)
end Go.Proofs.YthodfojhbbendaaDoor.syntaxBinds
