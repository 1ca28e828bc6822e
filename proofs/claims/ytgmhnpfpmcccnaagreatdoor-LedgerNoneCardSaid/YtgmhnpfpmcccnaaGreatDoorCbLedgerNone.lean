/- LedgerNone: THE CARD: whatever the arguments are, the law answers true, and its arguments and the listed variables read as before; what the row lists is tied to the program's text. -/
import Derived.Test.YtgmhnpfpmcccnaaGreatDoorCards
import Derived.SevenTiedAt
set_option linter.all false
set_option maxHeartbeats 4000000
namespace Go.Proofs.YtgmhnpfpmcccnaaGreatDoor
open Go

theorem ledgerNone_params (j : Nat) (t : TypeId) (ht : Tryz.f5.params[j]? = some t) : t = 9 ∨ t = 35 := by
  rw [Tryz.params5] at ht
  rcases j with _ | _ | j
  · exact .inr ((by simpa using ht.symm))
  · exact .inl (by simpa using ht.symm)
  · simp at ht

theorem ledgerNone_c1 : Rows.ledgerNoneRow.wfByText (OpenSpec.ofChange Rows.ledgerNoneSpec) = true := by kernel_rfl
theorem ledgerNone_c2 : Tryz.pinned.checked.prog.mainIs = some (true, ("9097cbd9d5dc3491e61bb78214419a3ad85228a661aa7dcc9d86c42fb9c457d6" : String).toList) := by kernel_rfl
theorem ledgerNone_c3 : true = Tryz.pinned.checked.prog.looks [] := by kernel_rfl
theorem ledgerNone_goes_no {P : Program} (h : P.funcs.any Func.goes = false) (f : FuncId) : P.goes f = false := by
  unfold Program.goes
  rw [h, Bool.and_false, Bool.or_false]
  refine List.any_eq_false.2 fun g _ => ?_
  cases hg : P.funcs[g]? with
  | none => simp
  | some fn =>
    simp only [Option.any_some]
    exact Array.any_eq_false.1 h g (Array.getElem?_eq_some_iff.1 hg).1 |> fun k => by
      rw [(Array.getElem?_eq_some_iff.1 hg).2] at k
      exact k
theorem ledgerNone_goesBy_no {P : Program} {c : OpenClaim} (h : P.funcs.any Func.goes = false) (hs : c.start = .entering) : false = c.goesBy P := by
  unfold OpenClaim.goesBy Program.goesAt Program.goesFrom
  rw [hs]
  cases P.funcNamed c.func with
  | none => rfl
  | some f => simp [ledgerNone_goes_no h f]
theorem ledgerNone_no_goes : Tryz.pinned.checked.prog.funcs.any Func.goes = false := by kernel_rfl
theorem ledgerNone_c4 : false = Rows.ledgerNoneRow.goesBy Tryz.pinned.checked.prog := ledgerNone_goesBy_no ledgerNone_no_goes rfl
theorem ledgerNone_s9 : Tryz.pinned.checked.prog.wantsStandIn 9 = false := by kernel_rfl
theorem ledgerNone_s35 : Tryz.pinned.checked.prog.wantsStandIn 35 = false := by kernel_rfl
end Go.Proofs.YtgmhnpfpmcccnaaGreatDoor
