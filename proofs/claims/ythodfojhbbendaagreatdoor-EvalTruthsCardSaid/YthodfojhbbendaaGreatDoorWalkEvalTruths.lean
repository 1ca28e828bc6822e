/- EvalTruths: whatever the two numbers are, the call answers true, and nothing older is turned. -/
import Derived.Test.YthodfojhbbendaaGreatDoorGo
namespace Go.Proofs.YthodfojhbbendaaGreatDoor.evalTruths
open Go Go.Ev Go.RowKit

theorem truths0 : (List.range 4).all (fun s => truths 0 (Int.ofNat s)) = true := by kernel_rfl
theorem truths1 : (List.range 4).all (fun s => truths 1 (Int.ofNat s)) = true := by kernel_rfl
theorem truths2 : (List.range 4).all (fun s => truths 2 (Int.ofNat s)) = true := by kernel_rfl
theorem truths3 : (List.range 4).all (fun s => truths 3 (Int.ofNat s)) = true := by kernel_rfl
theorem all (r s : Int) (hr : 0 ≤ r ∧ r < 4) (hs : 0 ≤ s ∧ s < 4) : truths r s = true := by
  have key : ∀ r : Int, (List.range 4).all (fun s => truths r (Int.ofNat s)) = true → truths r s = true := fun r h => by
    have := List.all_eq_true.1 h s.toNat (List.mem_range.2 (by omega))
    rwa [show Int.ofNat s.toNat = s from Int.toNat_of_nonneg hs.1] at this
  have : r = 0 ∨ r = 1 ∨ r = 2 ∨ r = 3 := by omega
  rcases this with rfl | rfl | rfl | rfl
  · exact key 0 truths0
  · exact key 1 truths1
  · exact key 2 truths2
  · exact key 3 truths3

theorem walk (a b : Int) (wa : (Lit.int .i64 a).wf = true) (wb : (Lit.int .i64 b).wf = true) (W : World) :
    Calls Tryz.prog 8 #[.int .i64 a, .int .i64 b] W fun e W' => e = .returned (.bool true) ∧ Below W.heap.size W W' := by
  have h := all (a % 4) (b % 4) ⟨by omega, by omega⟩ ⟨by omega, by omega⟩
  unfold truths go at h
  exact run0_true ext1_ok W (fun _ _ _ => RepL.cons (full_rep wa _ _ _) (RepL.cons (full_rep wb _ _ _) RepL.nil)) h (by kernel_rfl)
end Go.Proofs.YthodfojhbbendaaGreatDoor.evalTruths
