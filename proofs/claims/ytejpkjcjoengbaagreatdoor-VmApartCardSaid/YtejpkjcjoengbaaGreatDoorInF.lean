/-
  What a builder sees of its inputs, as plain functions.
-/
import Derived.Test.YtejpkjcjoengbaaGreatDoorNode
set_option linter.unusedVariables false
set_option linter.unusedSimpArgs false
namespace Go.Proofs.YtejpkjcjoengbaaGreatDoor
open Go.RowKit

structure Wd where
  env : Pairs
  args : List (List UInt8)
  inputs : List (List UInt8 × Nd)
def idxF (na : List (List UInt8)) (s : List UInt8) : Int := Lib.idxOfS (na.map bs) (bs s)
def walkF (n : Nd) : List (List UInt8) → Option Nd
  | [] => some n
  | s :: r => if n.kind ≠ 2 ∨ s = [] ∨ idxF n.names s < 0 ∨ (n.nodes.length : Int) ≤ idxF n.names s then none
    else match n.nodes[(idxF n.names s).toNat]? with
      | some m => walkF m r
      | none => none
def splitSl (p : List UInt8) : List (List UInt8) := (Lib.splitB ⟨#[47]⟩ 0 (Lib.countB (bs p) ⟨#[47]⟩) (bs p)).map (·.data.toList)
def inputF : List (List UInt8 × Nd) → List UInt8 → Option Nd
  | [], _ => none
  | (q, n) :: r, p => if p = q then some n else if Lib.hasPrefix p (q ++ [47]) = true then walkF n (splitSl (Lib.trimPrefix p (q ++ [47]))) else inputF r p

def readR (ins : List (List UInt8 × Nd)) (st : List (List UInt8)) : ORes :=
  match top1 st with
  | none => .error 40
  | some (s, x) => match inputF ins x with
    | some n => if n.kind = 1 ∨ n.kind = 3 then putR s [n.data] else .error 44
    | none => .error 44
def joinN (na : List (List UInt8)) : List UInt8 := na.flatMap fun s => s ++ [10]
def listR (ins : List (List UInt8 × Nd)) (st : List (List UInt8)) : ORes :=
  match top1 st with
  | none => .error 40
  | some (s, x) => match inputF ins x with
    | some n => if n.kind = 2 then putR s [joinN n.names] else .error 44
    | none => .error 44

end Go.Proofs.YtejpkjcjoengbaaGreatDoor
