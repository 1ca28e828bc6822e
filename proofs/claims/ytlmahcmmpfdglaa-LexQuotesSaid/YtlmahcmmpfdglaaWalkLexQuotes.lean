/- LexQuotes: whatever the arguments are, the call answers true, and nothing older is turned. -/
import Derived.Test.YtlmahcmmpfdglaaLxP
namespace Go.Proofs.Ytlmahcmmpfdglaa.lexQuotes
open Go Go.Ev Go.RowKit
theorem walk (a0 : ByteArray) (w0 : a0.size ≤ maxLen) (W : World) :
    Calls Try.prog 6 #[.string a0] W fun e W' => e = .returned (.bool true) ∧ Below W.heap.size W W' := by
  obtain ⟨st', h⟩ := lexQuotes_true 2000000 (a0.data.toList) St.empty (by decide) 
  have hc := parchmentlaw11_LexQuotes_ok 2000000 0 (a0.data.toList) St.empty _ h
  refine Calls.mono (callsTo_calls (C := C0) (vs := #[.string a0]) mixed0 ext3_ok mext0 (Below.refl _ _) (fun _ _ _ => (RepL.cons (by simp only [Rep]) RepL.nil)) hc (by kernel_rfl)) fun e W' ⟨hB, u, G, st, he, hr⟩ => ?_
  simp only [Rep] at hr
  subst hr
  exact ⟨he, hB⟩
end Go.Proofs.Ytlmahcmmpfdglaa.lexQuotes
