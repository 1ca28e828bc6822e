/- SyntaxBinds: THE CARD: whatever the two numbers are, the law answers true, and its arguments and the listed variables read as before; what the row lists is tied to the program's text. -/
import Derived.Test.YthodfojhbbendaaDoorRowSyntaxBinds
import Derived.Test.YthodfojhbbendaaDoorCards
import Derived.Test.YthodfojhbbendaaDoorTie
import Derived.SevenTiedAt
namespace Go.Proofs.YthodfojhbbendaaDoor
open Go

theorem syntaxBinds_params (j : Nat) (t : TypeId) (ht : Tryd.f3.params[j]? = some t) : t = 3 := by
  rw [Tryd.params3] at ht
  rcases j with _ | _ | j
  · simpa using ht.symm
  · simpa using ht.symm
  · simp at ht

/-- The tied card. -/
theorem syntaxBinds_card_holds : Rows.SyntaxBindsCardSaid :=
  Claim7.holds_tied_plain_at .later [] [.data, .data, .data, .sentinel, .sentinel] true (true, "69cb5a7f62d3107c2bed19ca21f0a8c3f6cc7638861b5a413ba62869402297af") true
    syntaxBinds.holds (fun _ h => by cases h) (by kernel_rfl) (fun _ h => by cases h) syntaxBinds_row_tie rfl ⟨rfl, rfl⟩ (by kernel_rfl) rfl
    (fun f fn hf hfn => by
      obtain rfl : f = 3 := Option.some.inj ((show Tryd.prog.funcNamed "parchment/parchmentlaw12.SyntaxBinds" = some 3 by kernel_rfl).symm.trans hf) |>.symm
      obtain rfl : fn = Tryd.f3 := (Option.some.inj (Tryd.func3.symm.trans hfn)).symm
      exact ⟨by kernel_rfl, fun j t ht => by
        have h3 := syntaxBinds_params j t ht
        subst h3
        exact (show Tryd.prog.wantsStandIn 3 = false by kernel_rfl)⟩)
    (by kernel_rfl)
#print axioms syntaxBinds_card_holds
end Go.Proofs.YthodfojhbbendaaDoor
