/-
  package vm: what is put out at the root, by walk.
-/
import Derived.Test.YtejpkjcjoengbaaGreatDoorVmH
set_option linter.unusedVariables false
set_option linter.unusedSimpArgs false
namespace Go.Proofs.YtejpkjcjoengbaaGreatDoor
open Go.RowKit

section
variable {B b : Nat} {ev av iv : Value} {most : Int} {sv : Value} {ov : Value} {bytes : Int} {lb : List UInt8} {w : World} {st : List (List UInt8)}

/-- Another output, and how many bytes it has. -/
theorem Mac.out (h : Mac B b ev av iv most sv st ov bytes lb w) (ov' : Value) (by' : Int) :
    Mac B b ev av iv most sv st ov' by' lb ((w.setCell ⟨b, 5, none⟩ ov').setCell ⟨b, 6, none⟩ (.int .i64 by')) ∧ Moved b sv sv w ((w.setCell ⟨b, 5, none⟩ ov').setCell ⟨b, 6, none⟩ (.int .i64 by')) := by
  have hs : ∀ k, k ≠ b → ((w.setCell ⟨b, 5, none⟩ ov').setCell ⟨b, 6, none⟩ (.int .i64 by')).heap[k]? = w.heap[k]? := fun k hk => (Below.heap_setCell _ _ _ _ hk).trans (Below.heap_setCell _ _ _ _ hk)
  refine ⟨⟨h.base, set_same (set_same h.blk rfl) rfl, h.stk.kept (row := some b) ⟨rfl, rfl, rfl, by simp [World.setCell], fun k _ hk => hs k (fun e => hk (by simp [e]))⟩ (Or.inr h.ne)⟩, rfl, rfl, rfl, by simp [World.setCell], fun k hk hb _ => hs k hb, fun _ h => .inl h⟩

abbrev nodeV (kind : Int) (exec : Bool) (d na nb : Value) : Array Value := #[.int .i64 kind, .bool exec, d, na, nb]

/-- What emit tells at the root, where nothing is put out yet. -/
def quotaV (bytes most : Int) : Value := if bytes > most then faultV 42 else .nilIface
def RootPost (kind : Int) (exec : Bool) (d na nb : Value) (n : Nat) (B b : Nat) (ev av iv : Value) (most : Int) (sv : Value) (st : List (List UInt8)) (bytes : Int) (lb : List UInt8) (w : World) (e : Ending) (w' : World) : Prop :=
  e = .returned (quotaV (bytes + n) most) ∧ Moved b sv sv w w' ∧ ∃ N, w.heap.size ≤ N ∧ w'.heap[N]? = some (.cells (nodeV kind exec d na nb) 32 (0, 0)) ∧ Mac B b ev av iv most sv st (.pointer (some ⟨N, 0, none⟩)) (bytes + n) lb w'

set_option maxHeartbeats 1000000 in
set_option maxRecDepth 100000 in
theorem vm_emit_root (kind : Int) (exec : Bool) (dA : Option Addr) (n c : Nat) (na nb : Value) (h : Mac B b ev av iv most sv st (.pointer none) bytes lb w) (hb0 : 0 ≤ bytes ∧ bytes ≤ 1000000000) (hn : n ≤ 1000000) :
    Calls Tryz.prog 89 #[.pointer (some ⟨b, 0, none⟩), .string (bs []), .agg (nodeV kind exec (.slice dA n c) na nb)] w (RootPost kind exec (.slice dA n c) na nb n B b ev av iv most sv st bytes lb w) := by
  have hbn : Below w.heap.size w (w.alloc (.cells (nodeV kind exec (.slice dA n c) na nb) 32)) := (Below.refl w.heap.size w).alloc (Nat.le_refl _) _
  have hm := h.kept hbn
  have c5 := hm.cell 5
  have c6 := hm.cell 6
  have c3 := hm.cell 3
  simp at c5 c6 c3
  have f5 := hm.frozen 5
  have f6 := hm.frozen 6
  have c6w := h.cell 6
  have c3w := h.cell 3
  simp at c6w c3w
  have f6w := h.frozen 6
  have hlt := h.lt
  have hne : b ≠ w.heap.size := by omega
  have hdn := heap_alloc_new w (.cells (nodeV kind exec (.slice dA n c) na nb) 32)
  obtain ⟨ho1, ho2⟩ := h.out (.pointer (some ⟨w.heap.size, 0, none⟩)) (bytes + n)
  generalize hW0 : (w.setCell ⟨b, 5, none⟩ (.pointer (some ⟨w.heap.size, 0, none⟩))).setCell ⟨b, 6, none⟩ (.int .i64 (bytes + n)) = W0 at ho1 ho2
  have hsz : W0.heap.size = w.heap.size := by subst hW0; simp [World.setCell]
  have hbo : Below W0.heap.size W0 ((W0.alloc (.cells (nodeV kind exec (.slice dA n c) na nb) 32)).drew.drew) := (((Below.refl W0.heap.size W0).alloc (Nat.le_refl _) _).drew).drew
  have hon : ((W0.alloc (.cells (nodeV kind exec (.slice dA n c) na nb) 32)).drew.drew).heap[w.heap.size]? = some (.cells (nodeV kind exec (.slice dA n c) na nb) 32 (0, 0)) := by rw [← hsz]; exact heap_alloc_new W0 _
  have HO := Lib.hid (And.intro (ho1.kept hbo) (And.intro (ho2.trans (Moved.of_below hbo)) hon))
  clear ho1 ho2 hbo hon hsz
  have HW := Lib.hid hW0
  clear hW0
  have HD := Lib.hid hdn
  clear hdn
  have e2 : (w.alloc (.cells (nodeV kind exec (.slice dA n c) na nb) 32)).cell? ⟨w.heap.size, 2, none⟩ = some (.slice dA n c) := by rw [cell_of_row _ _ _ _ _ _ HD.out]; rfl
  go_enter Tryz.func89, Tryz.ntmps89
  go_wp2
  go_region
  go_wp2
  go_region
  go_wp2
  all_goals go_ret
  all_goals rw [HW.out]
  all_goals obtain ⟨hq1, hq2, hq3⟩ := HO.out
  · rename_i hc
    refine ⟨?_, hq2, w.heap.size, Nat.le_refl _, hq3, hq1⟩
    rw [show quotaV (bytes + n) most = faultV 42 by unfold quotaV; rw [if_pos (by omega)]]
    rfl
  · rename_i hc
    refine ⟨?_, hq2, w.heap.size, Nat.le_refl _, hq3, hq1⟩
    rw [show quotaV (bytes + n) most = .nilIface by unfold quotaV; rw [if_neg (by omega)]]
    rfl
end
end Go.Proofs.YtejpkjcjoengbaaGreatDoor
