/- LexKeys: whatever the word is, the call answers true, and nothing older is turned: the 26 words one by one, and any that is none of them. -/
import Derived.Test.YtlmahcmmpfdglaaGo
namespace Go.Proofs.Ytlmahcmmpfdglaa.lexKeys
open Go Go.Ev Go.RowKit

def keyWords : List (List UInt8) := [[65, 78, 68], [66, 89], [67, 79, 85, 78, 84], [67, 82, 69, 65, 84, 69], [68, 69, 76, 69, 84, 69], [68, 69, 83, 67], [70, 65, 76, 83, 69], [70, 82, 79, 77], [72, 73, 83, 84, 79, 82, 89], [73, 78, 68, 69, 88], [73, 78, 83, 69, 82, 84], [73, 78, 84, 79], [73, 83], [76, 73, 77, 73, 84], [78, 79, 84], [78, 85, 76, 76], [79, 78], [79, 82], [79, 82, 68, 69, 82], [83, 69, 76, 69, 67, 84], [83, 69, 84], [84, 65, 66, 76, 69], [84, 82, 85, 69], [85, 80, 68, 65, 84, 69], [86, 65, 76, 85, 69], [87, 72, 69, 82, 69]]
theorem each : keyWords.all (fun x => go 4 [.str x]) = true := by kernel_rfl
theorem other (hi : Nat) : go 4 [.strx keyWords 0 hi] = true := by kernel_rfl

theorem walk (s : ByteArray) (W : World) :
    Calls Try.prog 4 #[.string s] W fun e W' => e = .returned (.bool true) ∧ Below W.heap.size W W' := by
  obtain ⟨⟨l⟩⟩ := s
  by_cases hl : l ∈ keyWords
  · have h := List.all_eq_true.1 each l hl
    unfold go at h
    exact run0_true ext1_ok W (fun _ _ _ => RepL.cons (by simp only [Rep]) RepL.nil) h (by rfl)
  · have h := other l.length
    unfold go at h
    refine run0_true ext1_ok W (fun _ _ _ => RepL.cons ?_ RepL.nil) h (by rfl)
    simp only [Rep]
    exact ⟨l, rfl, fun x hx e => hl (e ▸ hx), Nat.zero_le _, Nat.le_refl _⟩
end Go.Proofs.Ytlmahcmmpfdglaa.lexKeys
