/- EvalTruths: THE CARD: whatever the arguments are, the law answers true, and its arguments and the listed variables read as before; what the row lists is tied to the program's text. -/
import Derived.Test.YthodfojhbbendaaGreatDoorRowEvalTruths
import Derived.Test.YthodfojhbbendaaGreatDoorCards
import Derived.Test.YthodfojhbbendaaGreatDoorTie
import Derived.SevenTiedAt
namespace Go.Proofs.YthodfojhbbendaaGreatDoor
open Go

theorem evalTruths_params (j : Nat) (t : TypeId) (ht : Tryz.f8.params[j]? = some t) : t = 3 := by
  rw [Tryz.params8] at ht
  rcases j with _ | _ | j
  · simpa using ht.symm
  · simpa using ht.symm
  · simp at ht

/-- The tied card. -/
theorem evalTruths_card_holds : Rows.EvalTruthsCardSaid :=
  Claim7.holds_tied_plain_at .later [] [.data, .data, .data, .data, .sentinel, .sentinel, .pinned] true (true, "d4c8e5175d26928ad2a8b10e307c92aff6d2c18f157b19c70d8af1af159ef94e") true
    evalTruths.holds (fun _ h => by cases h) (by kernel_rfl) (fun _ h => by cases h) evalTruths_row_tie rfl ⟨rfl, rfl⟩ (by kernel_rfl) rfl
    (fun f fn hf hfn => by
      obtain rfl : f = 8 := Option.some.inj ((show Tryz.prog.funcNamed "parchment/parchmentlaw18.EvalTruths" = some 8 by kernel_rfl).symm.trans hf) |>.symm
      obtain rfl : fn = Tryz.f8 := (Option.some.inj (Tryz.func8.symm.trans hfn)).symm
      exact ⟨by kernel_rfl, fun j t ht => by
        obtain rfl := evalTruths_params j t ht
        exact (show Tryz.prog.wantsStandIn 3 = false by kernel_rfl)⟩)
    (by kernel_rfl)
#print axioms evalTruths_card_holds
end Go.Proofs.YthodfojhbbendaaGreatDoor
