/-
  vm.read as a plain function of the program's bytes (for the programs whose every line is covered by oneF).
-/
import Derived.Test.YtejpkjcjoengbaaGreatDoorVmM
set_option linter.unusedVariables false
set_option linter.unusedSimpArgs false
namespace Go.Proofs.YtejpkjcjoengbaaGreatDoor
open Go.RowKit

structure PLine where
  at_ : Nat
  word : List UInt8
  text : List UInt8
/-- The lines behind line 'at': what is kept, and the labels that have been seen; none: not covered. An error ends it with its line. -/
def readGo : List (List UInt8) → Nat → List PLine → List (List UInt8) → Option (Except Nat (List PLine × List (List UInt8)))
  | [], _, acc, labs => some (.ok (acc, labs))
  | l :: r, at_, acc, labs =>
    match oneF l with
    | none => none
    | some (x, ok) =>
      let labs' := if x.word = wLabel then x.text :: labs else labs
      if !ok || (x.word = wLabel && labs.contains x.text) then some (.error at_)
      else readGo r (at_ + 1) (if x.word = [] then acc else acc ++ [⟨at_, x.word, x.text⟩]) labs'
def checkGo : List PLine → List (List UInt8) → Option Nat
  | [], _ => none
  | x :: r, labs => if (x.word = wJump ∨ x.word = wIf) ∧ x.text ∉ labs then some x.at_ else checkGo r labs
structure ReadOut where
  lines : List PLine
  at_ : Nat
  err : Int
def readF (ls : List (List UInt8)) : Option ReadOut :=
  if ls.length > 4096 then some ⟨[], 0, 3⟩
  else match readGo ls 0 [] [] with
    | none => none
    | some (.error n) => some ⟨[], n, 41⟩
    | some (.ok (acc, labs)) => match checkGo acc labs with
      | some n => some ⟨[], n, 41⟩
      | none => some ⟨acc, 0, 0⟩
end Go.Proofs.YtejpkjcjoengbaaGreatDoor
