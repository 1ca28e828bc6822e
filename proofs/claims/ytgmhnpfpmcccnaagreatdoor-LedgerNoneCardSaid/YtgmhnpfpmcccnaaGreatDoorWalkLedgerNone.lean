/- LedgerNone: whatever the arguments are, the call answers true, and nothing older is turned. -/
import Derived.Test.YtgmhnpfpmcccnaaGreatDoorAw24
set_option linter.all false
set_option maxRecDepth 100000
namespace Go.Proofs.YtgmhnpfpmcccnaaGreatDoor.ledgerNone
open Go Go.Ev Go.RowKit Go.ChangeShapes Go.WideShapes Go.ChangeMaps
theorem int_rep {n : Int} (h : (Lit.int .i64 n).wf = true) (G : Gh) (st : St) (w : World) : Rep G st w (.resi .i64 1 0 (-9223372036854775808) 9223372036854775807) (.int .i64 n) := by
  have := bounds_i64 h
  simp only [Rep]
  exact ⟨n, rfl, by omega, this.1, this.2⟩
theorem uint_rep {n : Int} (h : (Lit.int .u64 n).wf = true) (G : Gh) (st : St) (w : World) : Rep G st w (.resi .u64 1 0 0 18446744073709551615) (.int .u64 n) := by
  have : 0 ≤ n ∧ n ≤ 18446744073709551615 := by simpa [Lit.wf, IntKind.min, IntKind.max, IntKind.signed, IntKind.bits] using h
  simp only [Rep]
  exact ⟨n, rfl, by omega, this.1, this.2⟩
theorem str_rep {s : ByteArray} (lo hi : Nat) (h1 : lo ≤ s.size) (h2 : s.size ≤ hi) (G : Gh) (st : St) (w : World) : Rep G st w (.strx [] lo hi) (.string s) := by
  simp only [Rep]
  exact ⟨s.data.toList, by simp, fun _ h => (by cases h), by simpa using h1, by simpa using h2⟩
theorem told : run0 C0 extA24 5 [(.resi .u64 1 0 0 18446744073709551615), (.strx [] 0 9223372036854775807)] = true := by kernel_rfl
theorem walk (a0 : Int) (a1 : ByteArray) (w0 : (Lit.int .u64 a0).wf = true) (w1 : a1.size ≤ maxLen) (W : World) :
    Calls Tryz.prog 5 #[.int .u64 a0, .string a1] W fun e W' => e = .returned (.bool true) ∧ Below W.heap.size W W' :=
  run0_true rfl mixed extA24_ok mext0 W (fun _ _ _ => (RepL.cons (uint_rep w0 _ _ _) (RepL.cons (str_rep 0 9223372036854775807 (Nat.zero_le _) w1 _ _ _) RepL.nil))) told (by kernel_rfl)
end Go.Proofs.YtgmhnpfpmcccnaaGreatDoor.ledgerNone
