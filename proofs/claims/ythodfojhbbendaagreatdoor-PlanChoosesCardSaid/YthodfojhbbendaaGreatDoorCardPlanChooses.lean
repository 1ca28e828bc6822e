/- PlanChooses: THE CARD: whatever the arguments are, the law answers true, and its arguments and the listed variables read as before; what the row lists is tied to the program's text. -/
import Derived.Test.YthodfojhbbendaaGreatDoorRowPlanChooses
import Derived.Test.YthodfojhbbendaaGreatDoorCards
import Derived.Test.YthodfojhbbendaaGreatDoorTie
import Derived.SevenTiedAt
namespace Go.Proofs.YthodfojhbbendaaGreatDoor
open Go

theorem planChooses_params (j : Nat) (t : TypeId) (ht : Tryz.f3.params[j]? = some t) : t = 22 ∨ t = 9 := by
  rw [Tryz.params3] at ht
  rcases j with _ | _ | j
  · exact .inr ((by simpa using ht.symm))
  · exact .inl ((by simpa using ht.symm))
  · simp at ht

/-- The tied card. -/
theorem planChooses_card_holds : Rows.PlanChoosesCardSaid :=
  Claim7.holds_tied_plain_at .later [] [.data, .data, .data, .data, .sentinel, .sentinel, .pinned] true (true, "d4c8e5175d26928ad2a8b10e307c92aff6d2c18f157b19c70d8af1af159ef94e") true
    planChooses.holds (fun _ h => by cases h) (by kernel_rfl) (fun _ h => by cases h) planChooses_row_tie rfl ⟨rfl, rfl⟩ (by kernel_rfl) rfl
    (fun f fn hf hfn => by
      obtain rfl : f = 3 := Option.some.inj ((show Tryz.prog.funcNamed "parchment/parchmentlaw19.PlanChooses" = some 3 by kernel_rfl).symm.trans hf) |>.symm
      obtain rfl : fn = Tryz.f3 := (Option.some.inj (Tryz.func3.symm.trans hfn)).symm
      exact ⟨by kernel_rfl, fun j t ht => by
        rcases planChooses_params j t ht with rfl | rfl
        · exact (show Tryz.prog.wantsStandIn 22 = false by kernel_rfl)
        · exact (show Tryz.prog.wantsStandIn 9 = false by kernel_rfl)⟩)
    (by kernel_rfl)
#print axioms planChooses_card_holds
end Go.Proofs.YthodfojhbbendaaGreatDoor
