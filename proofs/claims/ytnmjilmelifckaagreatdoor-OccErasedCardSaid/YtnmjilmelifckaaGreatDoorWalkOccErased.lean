/- OccErased: whatever the arguments are, the call answers true, and nothing older is turned. -/
import Derived.Test.YtnmjilmelifckaaGreatDoorGx
set_option linter.all false
namespace Go.Proofs.YtnmjilmelifckaaGreatDoor.occErased
open Go Go.Ev Go.RowKit Go.ChangeShapes Go.WideShapes Go.ChangeMaps

def half (r : Int) : AV := .resi .i64 2 r (-9223372036854775808) 9223372036854775807
theorem half_rep {n : Int} (h : (Lit.int .i64 n).wf = true) (G : Gh) (st : St) (w : World) : Rep G st w (half (n % 2)) (.int .i64 n) := by
  have := bounds_i64 h
  simp only [Rep, half]
  exact ⟨n, rfl, rfl, this.1, this.2⟩
theorem bool_rep (b : Bool) (G : Gh) (st : St) (w : World) : Rep G st w (.bool b) (.bool b) := by simp only [Rep]
theorem told00 : go 4 [.bool false, half 0] = true := by kernel_rfl
theorem told01 : go 4 [.bool false, half 1] = true := by kernel_rfl
theorem told10 : go 4 [.bool true, half 0] = true := by kernel_rfl
theorem told11 : go 4 [.bool true, half 1] = true := by kernel_rfl
theorem told (b : Bool) (r : Int) (hr : 0 ≤ r ∧ r < 2) : go 4 [.bool b, half r] = true := by
  have : r = 0 ∨ r = 1 := by omega
  rcases this with rfl | rfl <;> cases b
  · exact told00
  · exact told10
  · exact told01
  · exact told11
theorem walk (a0 : Bool) (a1 : Int) (w0 : True) (w1 : (Lit.int .i64 a1).wf = true) (W : World) :
    Calls Tryz.prog 4 #[.bool a0, .int .i64 a1] W fun e W' => e = .returned (.bool true) ∧ Below W.heap.size W W' := by
  have h := told a0 (a1 % 2) ⟨by omega, by omega⟩
  unfold go at h
  exact run0_true ext1_ok W (fun _ _ _ => RepL.cons (bool_rep a0 _ _ _) (RepL.cons (half_rep w1 _ _ _) RepL.nil)) h (by kernel_rfl)
end Go.Proofs.YtnmjilmelifckaaGreatDoor.occErased
