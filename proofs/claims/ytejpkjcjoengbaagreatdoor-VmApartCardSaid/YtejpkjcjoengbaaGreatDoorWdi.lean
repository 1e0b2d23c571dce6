/-
  A builder's world in memory.
-/
import Derived.Test.YtejpkjcjoengbaaGreatDoorInF
import Derived.Test.YtejpkjcjoengbaaGreatDoorWrong
set_option linter.unusedVariables false
set_option linter.unusedSimpArgs false
namespace Go.Proofs.YtejpkjcjoengbaaGreatDoor
open Go.RowKit

def InsIs (F : Nat → Prop) (w : World) : List (List UInt8 × Nd) → List Value → Prop
  | [], cells => cells = []
  | (p, n) :: r, cells => ∃ c1 c2, cells = .string (bs p) :: (c1 ++ c2) ∧ NdIs F w n c1 ∧ InsIs F w r c2
theorem InsIs.kept {F : Nat → Prop} {w w' : World} (hk : ∀ k, F k → w'.heap[k]? = w.heap[k]?) : ∀ (l : List (List UInt8 × Nd)) {cells : List Value}, InsIs F w l cells → InsIs F w' l cells
  | [], cells, h => h
  | (p, n) :: r, cells, h => by
    obtain ⟨c1, c2, h1, h2, h3⟩ := h
    exact ⟨c1, c2, h1, h2.kept hk, InsIs.kept hk r h3⟩
/-- A list's text is not too great to be built. -/
def listOk (ins : List (List UInt8 × Nd)) (st : List (List UInt8)) : Bool :=
  match top1 st with
  | none => true
  | some (_, x) => match inputF ins x with
    | some n => decide (entriesF n.names ≤ 1000000000000)
    | none => true
structure WdIs (B : Nat) (W : Wd) (ev av iv : Value) (w : World) : Prop where
  env : HeldRow B ev W.env.length (pairCells W.env) w
  args : HeldRow B av W.args.length (strCells W.args) w
  inputs : ∃ cs, SliceIs (fun k => k < B) 6 iv W.inputs.length cs w ∧ InsIs (fun k => k < B) w W.inputs cs
  paths : ∀ x ∈ W.inputs, x.1.length ≤ 281474976710656
theorem WdIs.below {B : Nat} {W : Wd} {ev av iv : Value} {w w' : World} (h : WdIs B W ev av iv w) (hb : Below B w w') : WdIs B W ev av iv w' := by
  obtain ⟨h1, h2, ⟨cs, h3, h4⟩, h5⟩ := h
  exact ⟨h1.below hb, h2.below hb, ⟨cs, h3.kept (fun k hk => hb.block k hk), h4.kept (fun k hk => hb.block k hk)⟩, h5⟩
end Go.Proofs.YtejpkjcjoengbaaGreatDoor
