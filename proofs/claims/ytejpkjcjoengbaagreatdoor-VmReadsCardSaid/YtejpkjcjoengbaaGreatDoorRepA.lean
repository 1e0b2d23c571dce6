/-
  strings.NewReplacer, by walk.
-/
import Derived.Test.YtejpkjcjoengbaaGreatDoorVmB
import Derived.Laws.Pointers
set_option linter.unusedVariables false
set_option linter.unusedSimpArgs false
namespace Go.Proofs.YtejpkjcjoengbaaGreatDoor
open Go.RowKit

def quoteRow : List (List UInt8) := [[92], [92, 92], [34], [92, 34], [10], [92, 110], [9], [92, 116]]

/-- A Replacer whose table is not made yet. -/
def RepNew (B : Nat) (R : Nat) (w : World) : Prop := B ≤ R ∧ ∃ v, w.heap[R]? = some (.cells #[.int .u32 0, .int .i32 0, .int .u32 0, .nilIface, v] 182 (0, 0)) ∧ w.ownsRow B 9 1 v 8 (strCells quoteRow)

set_option maxHeartbeats 1000000 in
set_option maxRecDepth 100000 in
theorem newReplacer {w : World} (g c : Nat) (hg : w.heap[g]? = some (.cells (strCells quoteRow).toArray 9 (0, 0))) :
    Calls Tryz.prog 74 #[.slice (some ⟨g, 0, none⟩) 8 c] w fun e w' => ∃ R, e = .returned (.pointer (some ⟨R, 0, none⟩)) ∧ RepNew w.heap.size R w' ∧ Below w.heap.size w w' := by
  obtain ⟨i0, hi, hz0, hz1, hz2⟩ := info_parts infoStr
  have HG := Lib.hid hg
  clear hg
  go_enter Tryz.func74, Tryz.ntmps74
  go_wp2_with (at_builtin; (refine wpList_append_new rfl _ _ 23 rfl w.heap.size 9 i0 (.string ⟨#[]⟩) 1 16 Tryz.underlying23 hi hz0 hz1 hz2 rfl (by decide) (.slice none 0 0) 0 [] rfl ?c0 ⟨g, 0, none⟩ 8 c (strCells quoteRow) rfl rfl ?c1 ?c2 (by decide) ?c3 ?c4 ?c5 ?_))
  case c0 => exact ⟨by simp, .inl ⟨rfl, rfl⟩⟩
  case c1 => exact fun j u hu => cell_at HG.out j u (by simpa using hu)
  case c2 => intro u hu; simp [strCells, quoteRow] at hu; rcases hu with rfl | rfl | rfl | rfl | rfl | rfl | rfl | rfl <;> rfl
  case c3 => unfold maxLen; omega
  case c4 => omega
  case c5 => exact Nat.le_refl _
  intro v' w1 hown hgr hfr
  have hbl : Below w.heap.size w w1 := (Below.refl w.heap.size w).grown hgr (Nat.le_refl _) (by simp [Value.ownBlock])
  have HO := Lib.hid hown
  obtain ⟨A, cp, rfl⟩ := own_slice hown
  clear hown hgr hfr
  go_wp2
  go_ret
  have hbn : Below w1.heap.size w1 (w1.alloc (.cells #[.int .u32 0, .int .i32 0, .int .u32 0, .nilIface, .slice A 8 cp] 182)) := (Below.refl w1.heap.size w1).alloc (Nat.le_refl _) _
  exact ⟨w1.heap.size, rfl, ⟨hbl.size, _, heap_alloc_new w1 _, own_below HO.out hbn⟩, hbl.trans (hbn.mono hbl.size)⟩
end Go.Proofs.YtejpkjcjoengbaaGreatDoor
