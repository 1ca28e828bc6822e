/- OccErased: THE CARD: whatever the arguments are, the law answers true, and its arguments and the listed variables read as before; what the row lists is tied to the program's text. -/
import Derived.Test.YtnmjilmelifckaaGreatDoorRowOccErased
import Derived.Test.YtnmjilmelifckaaGreatDoorCards
import Derived.Test.YtnmjilmelifckaaGreatDoorTie
import Derived.SevenTiedAt
set_option linter.all false
namespace Go.Proofs.YtnmjilmelifckaaGreatDoor
open Go

theorem occErased_params (j : Nat) (t : TypeId) (ht : Tryz.f4.params[j]? = some t) : t = 3 ∨ t = 4 := by
  rw [Tryz.params4] at ht
  rcases j with _ | _ | j
  · exact .inr ((by simpa using ht.symm))
  · exact .inl (by simpa using ht.symm)
  · simp at ht

theorem occErased_c1 : Rows.occErasedRow.wfByText (OpenSpec.ofChange Rows.occErasedSpec) = true := by kernel_rfl
theorem occErased_c2 : Tryz.pinned.checked.prog.mainIs = some (true, ("b45eef7d0ba23afd8c4d5df9acd72eab252cfe1b652da707836f5828004c1466" : String).toList) := by kernel_rfl
theorem occErased_c3 : true = Tryz.pinned.checked.prog.looks [] := by kernel_rfl
theorem occErased_goes_no {P : Program} (h : P.funcs.any Func.goes = false) (f : FuncId) : P.goes f = false := by
  unfold Program.goes
  rw [h, Bool.and_false, Bool.or_false]
  refine List.any_eq_false.2 fun g _ => ?_
  cases hg : P.funcs[g]? with
  | none => simp
  | some fn =>
    simp only [Option.any_some]
    exact Array.any_eq_false.1 h g (Array.getElem?_eq_some_iff.1 hg).1 |> fun k => by
      rw [(Array.getElem?_eq_some_iff.1 hg).2] at k
      exact k
theorem occErased_goesBy_no {P : Program} {c : OpenClaim} (h : P.funcs.any Func.goes = false) (hs : c.start = .entering) : false = c.goesBy P := by
  unfold OpenClaim.goesBy Program.goesAt Program.goesFrom
  rw [hs]
  cases P.funcNamed c.func with
  | none => rfl
  | some f => simp [occErased_goes_no h f]
theorem occErased_no_goes : Tryz.pinned.checked.prog.funcs.any Func.goes = false := by kernel_rfl
theorem occErased_c4 : false = Rows.occErasedRow.goesBy Tryz.pinned.checked.prog := occErased_goesBy_no occErased_no_goes rfl
theorem occErased_s3 : Tryz.pinned.checked.prog.wantsStandIn 3 = false := by kernel_rfl
theorem occErased_s4 : Tryz.pinned.checked.prog.wantsStandIn 4 = false := by kernel_rfl
/-- The tied card. -/
theorem occErased_card_holds : Rows.OccErasedCardSaid :=
  Claim7.holds_tied_plain_at .later [] [.data, .data, .data, .data, .sentinel, .sentinel, .pinned] true (true, "b45eef7d0ba23afd8c4d5df9acd72eab252cfe1b652da707836f5828004c1466") true
    occErased.holds (fun _ h => by cases h) occErased_c1 (fun _ h => by cases h) occErased_row_tie rfl ⟨rfl, rfl⟩ occErased_c2 rfl
    (fun f fn hf hfn => by
      obtain rfl : f = 4 := Option.some.inj (occErased.named_.symm.trans hf) |>.symm
      obtain rfl : fn = Tryz.f4 := (Option.some.inj (Tryz.func4.symm.trans hfn)).symm
      exact ⟨occErased_c3, fun j t ht => by
        rcases occErased_params j t ht with rfl | rfl
        · exact occErased_s3
        · exact occErased_s4⟩)
    occErased_c4
#print axioms occErased_card_holds
end Go.Proofs.YtnmjilmelifckaaGreatDoor
