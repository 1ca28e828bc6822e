/- PlanOnly: what is asked of the evaluator: a kind by its residue, two strings by their lengths alone. -/
import Derived.Test.YthodfojhbbendaaGreatDoorGo
namespace Go.Proofs.YthodfojhbbendaaGreatDoor
open Go Go.Ev
def strS : AV := .strx [] 0 50
def strL : AV := .strx [] 51 9223372036854775807
def strA : AV := .strx [] 0 9223372036854775807
noncomputable def only (a b : AV) (r : Int) : Bool := go 4 [a, b, full 64 r]
end Go.Proofs.YthodfojhbbendaaGreatDoor
