/- SyntaxBlanks: THE CARD: whatever the text is, the law answers true, and its arguments and the listed variables read as before; what the row lists is tied to the program's text. -/
import Derived.Test.YthodfojhbbendaaDoorRowSyntaxBlanks
import Derived.Test.YthodfojhbbendaaDoorCards
import Derived.Test.YthodfojhbbendaaDoorTie
import Derived.SevenTiedAt
namespace Go.Proofs.YthodfojhbbendaaDoor
open Go

theorem Aq (j : Nat) (t : TypeId) (ht : Tryd.f5.params[j]? = some t) : t = 9 := by
  rw [Tryd.params5] at ht
  rcases j with _ | j
  · simpa using ht.symm
  · simp at ht

/-- The tied card. -/
theorem syntaxBlanks_card_holds : Rows.SyntaxBlanksCardSaid :=
  Claim7.holds_tied_plain_at .later [] [.data, .data, .data, .sentinel, .sentinel] true (true, "69cb5a7f62d3107c2bed19ca21f0a8c3f6cc7638861b5a413ba62869402297af") true
    By.holds (fun _ h => by cases h) (by kernel_rfl) (fun _ h => by cases h) syntaxBlanks_row_tie rfl ⟨rfl, rfl⟩ (by kernel_rfl) rfl
    (fun f fn hf hfn => by
      obtain rfl : f = 5 := Option.some.inj ((show Tryd.prog.funcNamed "parchment/parchmentlaw12.SyntaxBlanks" = some 5 by kernel_rfl).symm.trans hf) |>.symm
      obtain rfl : fn = Tryd.f5 := (Option.some.inj (Tryd.func5.symm.trans hfn)).symm
      exact ⟨by kernel_rfl, fun j t ht => by
        have h3 := Aq j t ht
        subst h3
        exact (show Tryd.prog.wantsStandIn 9 = false by kernel_rfl)⟩)
    (by kernel_rfl)
#print axioms syntaxBlanks_card_holds
end Go.Proofs.YthodfojhbbendaaDoor
