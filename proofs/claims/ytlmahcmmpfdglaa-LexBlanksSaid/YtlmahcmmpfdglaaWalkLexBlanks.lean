/- LexBlanks: whatever the arguments are, the call answers true, and nothing older is turned. -/
import Derived.Test.YtlmahcmmpfdglaaLxQ
namespace Go.Proofs.Ytlmahcmmpfdglaa.lexBlanks
open Go Go.Ev Go.RowKit
theorem walk (a0 : ByteArray) (a1 : Int) (w0 : a0.size ≤ maxLen) (w1 : (Lit.int .i64 a1).wf = true) (W : World) :
    Calls Try.prog 5 #[.string a0, .int .i64 a1] W fun e W' => e = .returned (.bool true) ∧ Below W.heap.size W W' := by
  obtain ⟨st', h⟩ := lexBlanks_true 2000000 (a0.data.toList) (a1) St.empty (by decide) w1
  have hc := parchmentlaw11_LexBlanks_ok 2000000 0 (a0.data.toList) (a1) St.empty _ h
  refine Calls.mono (callsTo_calls (C := C0) (vs := #[.string a0, .int .i64 a1]) mixed0 ext3_ok mext0 (Below.refl _ _) (fun _ _ _ => (RepL.cons (by simp only [Rep]) (RepL.cons (by simp only [Rep]) RepL.nil))) hc (by kernel_rfl)) fun e W' ⟨hB, u, G, st, he, hr⟩ => ?_
  simp only [Rep] at hr
  subst hr
  exact ⟨he, hB⟩
end Go.Proofs.Ytlmahcmmpfdglaa.lexBlanks
