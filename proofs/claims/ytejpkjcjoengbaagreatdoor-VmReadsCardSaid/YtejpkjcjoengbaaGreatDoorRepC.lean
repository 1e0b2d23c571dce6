/-
  (*strings.byteStringReplacer).Replace of a short text that has none of the four bytes, by walk.
-/
import Derived.Test.YtejpkjcjoengbaaGreatDoorRepB
set_option linter.unusedVariables false
set_option linter.unusedSimpArgs false
namespace Go.Proofs.YtejpkjcjoengbaaGreatDoor
open Go.RowKit

/-- A text that needs no mark: short, and none of the four bytes in it. -/
def plainB (l : List UInt8) : Bool := decide (l.length < 32) && l.all fun c => !(c == 9 || c == 10 || c == 34 || c == 92)
theorem plainB_at {l : List UInt8} (h : plainB l = true) : l.length < 32 ∧ ∀ (k : Nat) (hk : k < l.length), l[k].toNat ∉ special.take 4 := by
  simp only [plainB, Bool.and_eq_true, decide_eq_true_eq, List.all_eq_true] at h
  refine ⟨h.1, fun k hk hm => ?_⟩
  have := h.2 _ (List.getElem_mem hk)
  generalize l[k] = c at *
  simp [special] at hm
  simp at this
  rcases hm with e | e | e | e
  · exact this.1.1.1 (UInt8.toNat_inj.1 e)
  · exact this.1.1.2 (UInt8.toNat_inj.1 e)
  · exact this.1.2 (UInt8.toNat_inj.1 e)
  · exact this.2 (UInt8.toNat_inj.1 e)

set_option maxHeartbeats 1000000 in
set_option maxRecDepth 100000 in
theorem rep_replace {w : World} {B T : Nat} (hT : TabInv B T 4 w) (l : List UInt8) (hl : plainB l = true) :
    Calls Tryz.prog 254 #[.pointer (some ⟨T, 0, none⟩), .string (bs l)] w fun e w' => e = .returned (.string (bs l)) ∧ w = w' := by
  obtain ⟨hl1, hl2⟩ := plainB_at hl
  obtain ⟨cs, v, xs, hT, hsz, h256, hz, hown⟩ := hT
  obtain ⟨A, cp, rfl⟩ := own_slice hown
  have n256 := (Lib.cell_of_heap hT 256).trans h256
  have hn : ∀ w : World, (binOp .neq 29 (.slice none 0 0) (.slice none 0 0)).run Tryz.prog w = .ok (.bool false) w := fun _ => rfl
  have hsl : (bs l).size = l.length := bs_size l
  have hcell : ∀ (k : Nat) (hk : k < (bs l).size), w.cell? ⟨T, (bs l)[k].toNat, none⟩ = some (.slice none 0 0) := by
    intro k hk
    have hk' : k < l.length := by omega
    have e : (bs l)[k] = l[k] := by simp [bs]; rfl
    rw [e]
    exact (Lib.cell_of_heap hT _).trans (hz _ (by have := l[k].toNat_lt; omega) (hl2 k hk'))
  have HC := Lib.hid hcell
  clear hcell hz hl2
  go_enter Tryz.func254, Tryz.ntmps254
  go_wp2
  go_loopw [6, 10] (fun t i wr => ∃ k : Nat, k ≤ l.length ∧ i = .int .i64 k ∧ t = .bool false ∧ w = wr) (fun t i wr => l.length - (intOf i).toNat)
  case atStart => exact ⟨0, by omega, rfl, rfl, rfl⟩
  case round =>
    obtain ⟨k, hk, rfl, rfl, rfl⟩ := hrel
    by_cases hlt : k < l.length
    · have hlt2 : k < (bs l).size := by omega
      have hc := HC.out k hlt2
      have h255 : ((bs l)[k].toNat : Int) < 256 := by have := (bs l)[k].toNat_lt; omega
      go_wp2
      go_roundw
      case rel => exact ⟨k + 1, by omega, by go_num, (by first | rfl | trivial), (by first | rfl | trivial)⟩
      case measure => simp [intOf]; omega
    · go_wp2
      go_ret
      exact ⟨rfl, rfl⟩
end Go.Proofs.YtejpkjcjoengbaaGreatDoor
