/-
  A slice of bytes as a string; a string but its first byte. (Of no function.)
-/
import Derived.Test.YtejpkjcjoengbaaGreatDoorNode
import Derived.Laws.IdiomStrings
import Derived.Laws.BytesArg
set_option linter.unusedVariables false
set_option linter.unusedSimpArgs false
namespace Go.Proofs.YtejpkjcjoengbaaGreatDoor
open Go.RowKit

set_option maxRecDepth 100000 in
theorem conv_bytes {F : Nat → Prop} {W : World} {A : Option Addr} {n c : Nat} {y : List UInt8} (h : SliceIs F 1 (.slice A n c) y.length (byteCells y) W) :
    (convert 29 9 (.slice A n c)).run Tryz.prog W = .ok (.string (bs y)) W := by
  obtain ⟨_, A', c', hv, hA⟩ := h
  injection hv with h1 h2 h3
  subst h1 h2 h3
  cases A with
  | none =>
    have hy : y.length = 0 := by
      rcases Nat.eq_zero_or_pos y.length with h | h
      · exact h
      · obtain ⟨g, o, h2, _⟩ := hA h; cases h2
    have : y = [] := List.eq_nil_of_length_eq_zero hy
    subst this
    exact run_convert_bytes_nil (P := Tryz.prog) W 29 5 Tryz.underlying29 Tryz.underlying5 0 c 9 Tryz.underlying9
  | some a =>
    refine run_convert_bytes_back (P := Tryz.prog) W 29 9 5 a c y Tryz.underlying29 Tryz.underlying5 Tryz.underlying9 (fun j hj => ?_)
    obtain ⟨g, o, h2, _, _, hc⟩ := hA (by omega)
    injection h2 with h2
    subst h2
    have := hc j (.int .u8 (y[j].toNat : Int)) (by simp [byteCells, hj])
    have hp : (⟨g, o, none⟩ : Addr).add j = ⟨g, o + j, none⟩ := by unfold Addr.add; split <;> simp_all
    rw [hp]; exact this
theorem bs_tail (c : UInt8) (r : List UInt8) : (bs (c :: r)).extract 1 (r.length + 1) = bs r := by
  apply ByteArray.ext
  simp [bs]
end Go.Proofs.YtejpkjcjoengbaaGreatDoor
