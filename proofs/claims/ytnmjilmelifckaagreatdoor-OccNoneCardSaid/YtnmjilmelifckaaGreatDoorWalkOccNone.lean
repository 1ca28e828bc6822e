/- OccNone: whatever the arguments are, the call answers true, and nothing older is turned. -/
import Derived.Test.YtnmjilmelifckaaGreatDoorGx
namespace Go.Proofs.YtnmjilmelifckaaGreatDoor.occNone
open Go Go.Ev Go.RowKit Go.ChangeShapes Go.WideShapes Go.ChangeMaps

theorem int_rep {n : Int} (h : (Lit.int .i64 n).wf = true) (G : Gh) (st : St) (w : World) : Rep G st w (.resi .i64 1 0 (-9223372036854775808) 9223372036854775807) (.int .i64 n) := by
  have := bounds_i64 h
  simp only [Rep]
  exact ⟨n, rfl, by omega, this.1, this.2⟩
theorem uint_rep {n : Int} (h : (Lit.int .u64 n).wf = true) (G : Gh) (st : St) (w : World) : Rep G st w (.resi .u64 1 0 0 18446744073709551615) (.int .u64 n) := by
  have : 0 ≤ n ∧ n ≤ 18446744073709551615 := by simpa [Lit.wf, IntKind.min, IntKind.max, IntKind.signed, IntKind.bits] using h
  simp only [Rep]
  exact ⟨n, rfl, by omega, this.1, this.2⟩
theorem str_rep {s : ByteArray} (h : s.size ≤ maxLen) (G : Gh) (st : St) (w : World) : Rep G st w (.strx [] 0 9223372036854775807) (.string s) := by
  have h : s.size ≤ 9223372036854775807 := h
  simp only [Rep]
  exact ⟨s.data.toList, by simp, fun _ h => (by cases h), Nat.zero_le _, by simpa using h⟩
theorem told : go 5 [(.resi .u64 1 0 0 18446744073709551615), (.strx [] 0 9223372036854775807)] = true := by kernel_rfl
theorem walk (a0 : Int) (a1 : ByteArray) (w0 : (Lit.int .u64 a0).wf = true) (w1 : a1.size ≤ maxLen) (W : World) :
    Calls Tryz.prog 5 #[.int .u64 a0, .string a1] W fun e W' => e = .returned (.bool true) ∧ Below W.heap.size W W' := by
  have h := told
  unfold go at h
  exact run0_true ext1_ok W (fun _ _ _ => (RepL.cons (uint_rep w0 _ _ _) (RepL.cons (str_rep w1 _ _ _) RepL.nil))) h (by kernel_rfl)
end Go.Proofs.YtnmjilmelifckaaGreatDoor.occNone
