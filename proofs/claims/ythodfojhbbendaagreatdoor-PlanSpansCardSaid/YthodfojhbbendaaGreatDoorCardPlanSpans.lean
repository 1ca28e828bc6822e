/- PlanSpans: THE CARD: whatever the arguments are, the law answers true, and its arguments and the listed variables read as before; what the row lists is tied to the program's text. -/
import Derived.Test.YthodfojhbbendaaGreatDoorRowPlanSpans
import Derived.Test.YthodfojhbbendaaGreatDoorCards
import Derived.Test.YthodfojhbbendaaGreatDoorTie
import Derived.SevenTiedAt
namespace Go.Proofs.YthodfojhbbendaaGreatDoor
open Go

theorem planSpans_params (j : Nat) (t : TypeId) (ht : Tryz.f7.params[j]? = some t) : t = 25 ∨ t = 9 := by
  rw [Tryz.params7] at ht
  rcases j with _ | _ | _ | j
  · exact .inl ((by simpa using ht.symm))
  · exact .inl ((by simpa using ht.symm))
  · exact .inr ((by simpa using ht.symm))
  · simp at ht

/-- The tied card. -/
theorem planSpans_card_holds : Rows.PlanSpansCardSaid :=
  Claim7.holds_tied_plain_at .later [] [.data, .data, .data, .data, .sentinel, .sentinel, .pinned] true (true, "d4c8e5175d26928ad2a8b10e307c92aff6d2c18f157b19c70d8af1af159ef94e") true
    planSpans.holds (fun _ h => by cases h) (by kernel_rfl) (fun _ h => by cases h) planSpans_row_tie rfl ⟨rfl, rfl⟩ (by kernel_rfl) rfl
    (fun f fn hf hfn => by
      obtain rfl : f = 7 := Option.some.inj ((show Tryz.prog.funcNamed "parchment/parchmentlaw19.PlanSpans" = some 7 by kernel_rfl).symm.trans hf) |>.symm
      obtain rfl : fn = Tryz.f7 := (Option.some.inj (Tryz.func7.symm.trans hfn)).symm
      exact ⟨by kernel_rfl, fun j t ht => by
        rcases planSpans_params j t ht with rfl | rfl
        · exact (show Tryz.prog.wantsStandIn 25 = false by kernel_rfl)
        · exact (show Tryz.prog.wantsStandIn 9 = false by kernel_rfl)⟩)
    (by kernel_rfl)
#print axioms planSpans_card_holds
end Go.Proofs.YthodfojhbbendaaGreatDoor
