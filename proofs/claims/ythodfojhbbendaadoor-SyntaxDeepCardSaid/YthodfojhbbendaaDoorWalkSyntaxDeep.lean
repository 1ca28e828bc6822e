/- SyntaxDeep: whatever the two numbers are, the call answers true, and nothing older is turned. -/
import Derived.Test.YthodfojhbbendaaDoorDe1
import Derived.Test.YthodfojhbbendaaDoorDe2
import Derived.Test.YthodfojhbbendaaDoorDe3
import Derived.Test.YthodfojhbbendaaDoorDe4
namespace Go.Proofs.YthodfojhbbendaaDoor.syntaxDeep
open Go Go.Ev Go.RowKit

theorem all (r s : Int) (hr : 0 ≤ r ∧ r < 64) (hs : 0 ≤ s ∧ s < 4) : deep r s = true := by
  have : s = 0 ∨ s = 1 ∨ s = 2 ∨ s = 3 := by omega
  rcases this with rfl | rfl | rfl | rfl
  · exact deep0 r hr
  · exact deep1 r hr
  · exact deep2 r hr
  · exact deep3 r hr

theorem walk (a b : Int) (wa : (Lit.int .i64 a).wf = true) (wb : (Lit.int .i64 b).wf = true) (W : World) :
    Calls Tryd.prog 4 #[.int .i64 a, .int .i64 b] W fun e W' => e = .returned (.bool true) ∧ Below W.heap.size W W' := by
  have h := all (a % 64) (b % 4) ⟨by omega, by omega⟩ ⟨by omega, by omega⟩
  unfold deep go at h
  exact run0_true ext1_ok W (fun _ _ _ => RepL.cons (full_rep wa _ _ _) (RepL.cons (full_rep wb _ _ _) RepL.nil)) h (by rfl)
end Go.Proofs.YthodfojhbbendaaDoor.syntaxDeep
