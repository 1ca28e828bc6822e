/- OccNone: THE CARD: whatever the arguments are, the law answers true, and its arguments and the listed variables read as before; what the row lists is tied to the program's text. -/
import Derived.Test.YtnmjilmelifckaaGreatDoorRowOccNone
import Derived.Test.YtnmjilmelifckaaGreatDoorCards
import Derived.Test.YtnmjilmelifckaaGreatDoorTie
import Derived.SevenTiedAt
set_option linter.all false
namespace Go.Proofs.YtnmjilmelifckaaGreatDoor
open Go

theorem occNone_params (j : Nat) (t : TypeId) (ht : Tryz.f5.params[j]? = some t) : t = 9 ∨ t = 29 := by
  rw [Tryz.params5] at ht
  rcases j with _ | _ | j
  · exact .inr ((by simpa using ht.symm))
  · exact .inl (by simpa using ht.symm)
  · simp at ht

theorem occNone_c1 : Rows.occNoneRow.wfByText (OpenSpec.ofChange Rows.occNoneSpec) = true := by kernel_rfl
theorem occNone_c2 : Tryz.pinned.checked.prog.mainIs = some (true, ("b45eef7d0ba23afd8c4d5df9acd72eab252cfe1b652da707836f5828004c1466" : String).toList) := by kernel_rfl
theorem occNone_c3 : true = Tryz.pinned.checked.prog.looks [] := by kernel_rfl
theorem occNone_goes_no {P : Program} (h : P.funcs.any Func.goes = false) (f : FuncId) : P.goes f = false := by
  unfold Program.goes
  rw [h, Bool.and_false, Bool.or_false]
  refine List.any_eq_false.2 fun g _ => ?_
  cases hg : P.funcs[g]? with
  | none => simp
  | some fn =>
    simp only [Option.any_some]
    exact Array.any_eq_false.1 h g (Array.getElem?_eq_some_iff.1 hg).1 |> fun k => by
      rw [(Array.getElem?_eq_some_iff.1 hg).2] at k
      exact k
theorem occNone_goesBy_no {P : Program} {c : OpenClaim} (h : P.funcs.any Func.goes = false) (hs : c.start = .entering) : false = c.goesBy P := by
  unfold OpenClaim.goesBy Program.goesAt Program.goesFrom
  rw [hs]
  cases P.funcNamed c.func with
  | none => rfl
  | some f => simp [occNone_goes_no h f]
theorem occNone_no_goes : Tryz.pinned.checked.prog.funcs.any Func.goes = false := by kernel_rfl
theorem occNone_c4 : false = Rows.occNoneRow.goesBy Tryz.pinned.checked.prog := occNone_goesBy_no occNone_no_goes rfl
theorem occNone_s9 : Tryz.pinned.checked.prog.wantsStandIn 9 = false := by kernel_rfl
theorem occNone_s29 : Tryz.pinned.checked.prog.wantsStandIn 29 = false := by kernel_rfl
/-- The tied card. -/
theorem occNone_card_holds : Rows.OccNoneCardSaid :=
  Claim7.holds_tied_plain_at .later [] [.data, .data, .data, .data, .sentinel, .sentinel, .pinned] true (true, "b45eef7d0ba23afd8c4d5df9acd72eab252cfe1b652da707836f5828004c1466") true
    occNone.holds (fun _ h => by cases h) occNone_c1 (fun _ h => by cases h) occNone_row_tie rfl ⟨rfl, rfl⟩ occNone_c2 rfl
    (fun f fn hf hfn => by
      obtain rfl : f = 5 := Option.some.inj (occNone.named_.symm.trans hf) |>.symm
      obtain rfl : fn = Tryz.f5 := (Option.some.inj (Tryz.func5.symm.trans hfn)).symm
      exact ⟨occNone_c3, fun j t ht => by
        rcases occNone_params j t ht with rfl | rfl
        · exact occNone_s9
        · exact occNone_s29⟩)
    occNone_c4
#print axioms occNone_card_holds
end Go.Proofs.YtnmjilmelifckaaGreatDoor
