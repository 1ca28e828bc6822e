/- What a function leads to, with what was seen kept as the bits of a number: the same list. -/
import Derived.Test.YtgmhnpfpmcccnaaGreatDoorRows
import Derived.KernelRfl
set_option maxRecDepth 100000
set_option maxHeartbeats 4000000
namespace Go.Proofs.YtgmhnpfpmcccnaaGreatDoor.ledgerNone
open Go
def closM (P : Program) : Nat → List FuncId → Nat → List FuncId → List FuncId
  | 0, _, _, seen => seen.reverse
  | _ + 1, [], _, seen => seen.reverse
  | n + 1, f :: todo, m, seen => cond (Nat.testBit m f) (closM P n todo m seen) (closM P n ((P.funcs[f]?).elim [] P.leadsTo ++ todo) (Nat.lor m (2 ^ f)) (f :: seen))
theorem closM_eq (P : Program) : ∀ (n : Nat) (todo : List FuncId) (m : Nat) (seen : List FuncId), (∀ f, Nat.testBit m f = seen.contains f) → P.closureVia n todo seen = closM P n todo m seen
  | 0, _, _, _, _ => by simp only [Program.closureVia, closM]
  | _ + 1, [], _, _, _ => by simp only [Program.closureVia, closM]
  | n + 1, f :: todo, m, seen, h => by
    simp only [Program.closureVia, closM]
    rw [← h f]
    cases hb : Nat.testBit m f with
    | true =>
      simp only [cond_true, if_true]
      exact closM_eq P n todo m seen h
    | false =>
      simp only [cond_false]
      rw [if_neg (by simp)]
      refine closM_eq P n _ _ _ fun g => ?_
      have e : Nat.lor m (2 ^ f) = m ||| 2 ^ f := rfl
      rw [e, Nat.testBit_or, h g, Nat.testBit_two_pow, List.contains_cons, Bool.or_comm]
      congr 1
      by_cases hg : f = g
      · subst hg; simp
      · have : ¬ g = f := fun x => hg x.symm
        simp [hg, this]
theorem clos_eq (P : Program) (f : FuncId) : P.closure f = closM P (1 + (P.funcs.toList.map fun g => (P.leadsTo g).length + 1).sum) [f] 0 [] := closM_eq P _ _ _ _ fun g => by simp
theorem all4 : ((Rows.ledgerNoneRow.inPlace == Tryz.pinned.checked.prog.inPlace 5) && (Rows.ledgerNoneRow.unfollowed == Tryz.pinned.checked.prog.unfollowed 5) && (Rows.ledgerNoneRow.recurses == Tryz.pinned.checked.prog.recurses 5) && (Rows.ledgerNoneRow.named == Tryz.pinned.checked.prog.varsNamed 5)) = true := by
  unfold Program.inPlace Program.recurses Program.unfollowed Program.varsNamed
  rw [clos_eq]
  kernel_rfl
theorem fact9 : ((Rows.ledgerNoneRow.inPlace == Tryz.pinned.checked.prog.inPlace 5)) = true := (Bool.and_eq_true_iff.1 (Bool.and_eq_true_iff.1 (Bool.and_eq_true_iff.1 all4).1).1).1
theorem fact10 : ((Rows.ledgerNoneRow.unfollowed == Tryz.pinned.checked.prog.unfollowed 5)) = true := (Bool.and_eq_true_iff.1 (Bool.and_eq_true_iff.1 (Bool.and_eq_true_iff.1 all4).1).1).2
theorem fact11 : ((Rows.ledgerNoneRow.recurses == Tryz.pinned.checked.prog.recurses 5)) = true := (Bool.and_eq_true_iff.1 (Bool.and_eq_true_iff.1 all4).1).2
theorem fact12 : ((Rows.ledgerNoneRow.named == Tryz.pinned.checked.prog.varsNamed 5)) = true := (Bool.and_eq_true_iff.1 all4).2
end Go.Proofs.YtgmhnpfpmcccnaaGreatDoor.ledgerNone
