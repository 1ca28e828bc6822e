/- SessionNone: THE CARD: whatever the arguments are, the law answers true, and its arguments and the listed variables read as before; what the row lists is tied to the program's text. -/
import Derived.Test.YtgmhnpfpmcccnaaGreatDoorCards
import Derived.SevenTiedAt
set_option linter.all false
set_option maxHeartbeats 4000000
namespace Go.Proofs.YtgmhnpfpmcccnaaGreatDoor
open Go

theorem sessionNone_params (j : Nat) (t : TypeId) (ht : Tryz.f3.params[j]? = some t) : t = 3 ∨ t = 9 := by
  rw [Tryz.params3] at ht
  rcases j with _ | _ | j
  · exact .inl (by simpa using ht.symm)
  · exact .inr ((by simpa using ht.symm))
  · simp at ht

theorem sessionNone_c1 : Rows.sessionNoneRow.wfByText (OpenSpec.ofChange Rows.sessionNoneSpec) = true := by kernel_rfl
theorem sessionNone_c2 : Tryz.pinned.checked.prog.mainIs = some (true, ("9097cbd9d5dc3491e61bb78214419a3ad85228a661aa7dcc9d86c42fb9c457d6" : String).toList) := by kernel_rfl
theorem sessionNone_c3 : true = Tryz.pinned.checked.prog.looks [] := by kernel_rfl
theorem sessionNone_goes_no {P : Program} (h : P.funcs.any Func.goes = false) (f : FuncId) : P.goes f = false := by
  unfold Program.goes
  rw [h, Bool.and_false, Bool.or_false]
  refine List.any_eq_false.2 fun g _ => ?_
  cases hg : P.funcs[g]? with
  | none => simp
  | some fn =>
    simp only [Option.any_some]
    exact Array.any_eq_false.1 h g (Array.getElem?_eq_some_iff.1 hg).1 |> fun k => by
      rw [(Array.getElem?_eq_some_iff.1 hg).2] at k
      exact k
theorem sessionNone_goesBy_no {P : Program} {c : OpenClaim} (h : P.funcs.any Func.goes = false) (hs : c.start = .entering) : false = c.goesBy P := by
  unfold OpenClaim.goesBy Program.goesAt Program.goesFrom
  rw [hs]
  cases P.funcNamed c.func with
  | none => rfl
  | some f => simp [sessionNone_goes_no h f]
theorem sessionNone_no_goes : Tryz.pinned.checked.prog.funcs.any Func.goes = false := by kernel_rfl
theorem sessionNone_c4 : false = Rows.sessionNoneRow.goesBy Tryz.pinned.checked.prog := sessionNone_goesBy_no sessionNone_no_goes rfl
theorem sessionNone_s3 : Tryz.pinned.checked.prog.wantsStandIn 3 = false := by kernel_rfl
theorem sessionNone_s9 : Tryz.pinned.checked.prog.wantsStandIn 9 = false := by kernel_rfl
end Go.Proofs.YtgmhnpfpmcccnaaGreatDoor
