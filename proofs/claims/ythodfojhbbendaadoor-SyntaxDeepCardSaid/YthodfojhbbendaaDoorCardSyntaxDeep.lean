/- SyntaxDeep: THE CARD: whatever the two numbers are, the law answers true, and its arguments and the listed variables read as before; what the row lists is tied to the program's text. -/
import Derived.Test.YthodfojhbbendaaDoorRowSyntaxDeep
import Derived.Test.YthodfojhbbendaaDoorCards
import Derived.Test.YthodfojhbbendaaDoorTie
import Derived.SevenTiedAt
namespace Go.Proofs.YthodfojhbbendaaDoor
open Go

theorem syntaxDeep_params (j : Nat) (t : TypeId) (ht : Tryd.f4.params[j]? = some t) : t = 3 := by
  rw [Tryd.params4] at ht
  rcases j with _ | _ | j
  · simpa using ht.symm
  · simpa using ht.symm
  · simp at ht

/-- The tied card. -/
theorem syntaxDeep_card_holds : Rows.SyntaxDeepCardSaid :=
  Claim7.holds_tied_plain_at .later [] [.data, .data, .data, .sentinel, .sentinel] true (true, "69cb5a7f62d3107c2bed19ca21f0a8c3f6cc7638861b5a413ba62869402297af") true
    syntaxDeep.holds (fun _ h => by cases h) (by kernel_rfl) (fun _ h => by cases h) syntaxDeep_row_tie rfl ⟨rfl, rfl⟩ (by kernel_rfl) rfl
    (fun f fn hf hfn => by
      obtain rfl : f = 4 := Option.some.inj ((show Tryd.prog.funcNamed "parchment/parchmentlaw12.SyntaxDeep" = some 4 by kernel_rfl).symm.trans hf) |>.symm
      obtain rfl : fn = Tryd.f4 := (Option.some.inj (Tryd.func4.symm.trans hfn)).symm
      exact ⟨by kernel_rfl, fun j t ht => by
        have h3 := syntaxDeep_params j t ht
        subst h3
        exact (show Tryd.prog.wantsStandIn 3 = false by kernel_rfl)⟩)
    (by kernel_rfl)
#print axioms syntaxDeep_card_holds
end Go.Proofs.YthodfojhbbendaaDoor
