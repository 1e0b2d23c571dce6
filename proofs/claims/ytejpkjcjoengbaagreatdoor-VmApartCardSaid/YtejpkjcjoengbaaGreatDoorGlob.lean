/-
  What the package-level variables hold, as one fact of the world (of no function).
-/
import Derived.Test.YtejpkjcjoengbaaGreatDoorLexD
import Derived.WalkSmall
set_option linter.unusedVariables false
set_option linter.unusedSimpArgs false
namespace Go.Proofs.YtejpkjcjoengbaaGreatDoor
open Go.RowKit

def lexWords : List ByteArray := [bs [108, 101, 116], bs [105, 110], bs [105, 102], bs [116, 104, 101, 110], bs [101, 108, 115, 101], bs [114, 101, 99]]
def lexSigns : List (List UInt8) := [[61, 61], [33, 61], [60, 61], [62, 61], [38, 38], [124, 124], [43, 43], [45, 62], [123], [125], [91], [93], [40], [41], [61], [59], [58], [46], [43], [45], [42], [47], [60], [62], [33]]

structure Glob (w : World) : Prop where
  words : w.var? Tryz.prog "stillroom/lex.words" = some (lexWords.map Value.string).toArray
  signs : w.var? Tryz.prog "stillroom/lex.signs" = some (lexSigns.map fun l => Value.string (bs l)).toArray
  pow10 : Lib.TabIs Tryz.prog w "internal/strconv.uint64pow10" .u64 Lib.pow10Tab
  maxl : ∃ m, w.cell? ⟨3, 0, none⟩ = some (.int .i64 m)
  esyn : ∃ tp p, w.var? Tryz.prog "strconv.ErrSyntax" = some #[.iface tp p]
  eran : ∃ tp p, w.var? Tryz.prog "strconv.ErrRange" = some #[.iface tp p]
  etyp : w.cell? ⟨0, 0, none⟩ = some (.iface 109 (.agg #[.pointer (some ⟨Tryz.prog.globals.size, 58, none⟩)]))
  size : Tryz.prog.globals.size + 1 ≤ w.heap.size

theorem gsize : Tryz.prog.globals.size = 11 := by kernel_rfl
theorem gWords : Tryz.prog.globalNamed "stillroom/lex.words" = some 1 := by kernel_rfl
theorem gSigns : Tryz.prog.globalNamed "stillroom/lex.signs" = some 2 := by kernel_rfl
theorem gPow : Tryz.prog.globalNamed "internal/strconv.uint64pow10" = some 8 := by kernel_rfl
theorem gSyn : Tryz.prog.globalNamed "strconv.ErrSyntax" = some 6 := by kernel_rfl
theorem gRan : Tryz.prog.globalNamed "strconv.ErrRange" = some 7 := by kernel_rfl

theorem Glob.below {w w' : World} {B : Nat} (h : Glob w) (hb : Below B w w') (hB : Tryz.prog.globals.size ≤ B) : Glob w' := by
  have hs := gsize
  obtain ⟨h1, h2, h3, ⟨m, h4⟩, ⟨tp, p, h5⟩, ⟨tq, q, h6⟩, h7, h8⟩ := h
  exact ⟨var?_below hb gWords (by omega) h1, var?_below hb gSigns (by omega) h2, var?_below hb gPow (by omega) h3, ⟨m, (hb.cell (p := ⟨3, 0, none⟩) (by show 3 < B; omega)).trans h4⟩,
    ⟨tp, p, var?_below hb gSyn (by omega) h5⟩, ⟨tq, q, var?_below hb gRan (by omega) h6⟩, (hb.cell (p := ⟨0, 0, none⟩) (by show 0 < B; omega)).trans h7, Nat.le_trans h8 hb.size⟩
theorem Glob.grown {w w' : World} (h : Glob w) (hb : Below w.heap.size w w') : Glob w' := h.below hb (by have := h.size; omega)
theorem Glob.word {w : World} (h : Glob w) (j : Nat) (hj : j < 6) : w.cell? ⟨1, j, none⟩ = some (.string (lexWords.getD j ByteArray.empty)) := by
  rw [World.var?_cell gWords h.words j]
  match j, hj with
  | 0, _ => rfl
  | 1, _ => rfl
  | 2, _ => rfl
  | 3, _ => rfl
  | 4, _ => rfl
  | 5, _ => rfl
theorem Glob.sign {w : World} (h : Glob w) (j : Nat) (l : List UInt8) (hl : lexSigns[j]? = some l) : w.cell? ⟨2, j, none⟩ = some (.string (bs l)) := by
  rw [World.var?_cell gSigns h.signs j]
  simp [hl]
end Go.Proofs.YtejpkjcjoengbaaGreatDoor
