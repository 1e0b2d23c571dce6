/-
  (*strings.Replacer).Replace of a text that needs no mark: the table is made at the first call, by sync.Once.
-/
import Derived.Test.YtejpkjcjoengbaaGreatDoorRepD
set_option linter.unusedVariables false
set_option linter.unusedSimpArgs false
namespace Go.Proofs.YtejpkjcjoengbaaGreatDoor
open Go.RowKit

theorem TabInv.store {B T k R : Nat} {w : World} {cs : Array Value} {ty : TypeId} (h : TabInv B T k w) (hR : w.heap[R]? = some (.cells cs ty (0, 0))) (hty : ty ≠ 9) (hty2 : ty ≠ 225) (j : Nat) (x : Value) : TabInv B T k (w.setCell ⟨R, j, none⟩ x) := by
  obtain ⟨cs', v, xs, hT, hsz, h256, hz, hown⟩ := h
  have hne : T ≠ R := fun e => by subst e; rw [hR] at hT; injection hT with hT; injection hT with _ h2; exact hty2 h2
  refine ⟨cs', v, xs, (Below.heap_setCell _ _ _ _ hne).trans hT, hsz, h256, hz, hown.kept (row := some R) ⟨rfl, rfl, rfl, by simp [World.setCell], fun k _ hk => Below.heap_setCell _ _ _ _ (fun e => hk (by simp [e]))⟩ (Or.inr (Lib.ownBlock_ne hown hR hty))⟩
theorem TabInv.below {B T k : Nat} {w w' : World} (h : TabInv B T k w) (hb : Below w.heap.size w w') : TabInv B T k w' := by
  obtain ⟨cs', v, xs, hT, hsz, h256, hz, hown⟩ := h
  exact ⟨cs', v, xs, (hb.block T (Array.getElem?_eq_some_iff.1 hT).1).trans hT, hsz, h256, hz, own_below hown hb⟩
theorem TabInv.base {B B' T k : Nat} {w : World} (h : TabInv B T k w) (hB : B' ≤ B) : TabInv B' T k w := by
  obtain ⟨cs', v, xs, hT, hsz, h256, hz, hl, hown⟩ := h
  refine ⟨cs', v, xs, hT, hsz, h256, hz, hl, ?_⟩
  rcases hown with h1 | ⟨g, cap, cur, h1, h2, h3⟩
  · exact .inl h1
  · exact .inr ⟨g, cap, cur, h1, by omega, h3⟩

abbrev repCells (d s m : Int) (r v : Value) : Array Value := #[.int .u32 d, .int .i32 s, .int .u32 m, r, v]

/-- A Replacer whose table is made. -/
def RepDone (B R T : Nat) (w : World) : Prop := w.heap[R]? = some (.cells (repCells 1 0 0 (.iface 226 (.pointer (some ⟨T, 0, none⟩))) (.slice none 0 0)) 182 (0, 0)) ∧ TabInv B T 4 w

set_option maxHeartbeats 1000000 in
set_option maxRecDepth 100000 in
/-- buildOnce: the table is laid, the pairs are let go. -/
theorem rep_buildOnce {w : World} (R g c : Nat) (d : Int) (hR : w.heap[R]? = some (.cells (repCells 0 d 0 .nilIface (.slice (some ⟨g, 0, none⟩) 8 c)) 182 (0, 0)))
    (hg : ∀ j x, (strCells quoteRow)[j]? = some x → w.cell? ⟨g, j, none⟩ = some x) :
    Calls Tryz.prog 111 #[.pointer (some ⟨R, 0, none⟩)] w fun e w' => ∃ T w1, e = .returned (.tuple #[]) ∧ w.heap.size ≤ T ∧ TabInv w.heap.size T 4 w1 ∧ Below w.heap.size w w1 ∧ w' = (w1.setCell ⟨R, 3, none⟩ (.iface 226 (.pointer (some ⟨T, 0, none⟩)))).setCell ⟨R, 4, none⟩ (.slice none 0 0) := by
  go_enter Tryz.func111, Tryz.ntmps111
  go_wp2_with (go_at_call 136; refine (rep_build R g c (.int .i32 d) .nilIface hR hg).mono ?_)
  rintro e w1 ⟨T, rfl, hT, hI, hb⟩
  have hRl : R < w.heap.size := (Array.getElem?_eq_some_iff.1 hR).1
  have hR1 := (hb.block R hRl).trans hR
  have c3 := Lib.cell_of_heap hR1 3
  have c4 := Lib.cell_of_heap hR1 4
  have f3 := Lib.frozen_of_heap hR1 3
  have f4 := Lib.frozen_of_heap hR1 4
  simp at c3 c4
  have HI := Lib.hid hI
  clear hI
  go_wp2
  go_end0
  exact ⟨T, w1, rfl, hT, HI.out, hb, rfl⟩

theorem atomic_load (a : Addr) (d : Int) (v : Bool) (hv : (d != 0) = v) (w : World) (hc : w.cell? a = some (.int .u32 d)) :
    Calls Tryz.prog 134 #[.pointer (some a)] w fun e w' => e = .returned (.bool v) ∧ w = w' := by
  subst hv
  have hl := run_call_load (P := Tryz.prog) Tryz.func150 (by kernel_rfl) (by kernel_rfl) (by kernel_rfl) .u32 (by kernel_rfl) hc
  go_enter Tryz.func134, Tryz.ntmps134
  go_wp2
  go_ret
  exact ⟨rfl, rfl⟩

set_option maxHeartbeats 1000000 in
set_option maxRecDepth 100000 in
theorem rep_slow {w : World} (R g c : Nat) (hR : w.heap[R]? = some (.cells (repCells 0 0 0 .nilIface (.slice (some ⟨g, 0, none⟩) 8 c)) 182 (0, 0))) (hgR : g ≠ R)
    (hg : ∀ j x, (strCells quoteRow)[j]? = some x → w.cell? ⟨g, j, none⟩ = some x) :
    Calls Tryz.prog 135 #[.pointer (some ⟨R, 0, none⟩), .func (.func 111) #[.pointer (some ⟨R, 0, none⟩)] #[]] w fun e w' => e = .returned (.tuple #[]) ∧ ∃ T, RepDone w.heap.size R T w' ∧ Moved R .nilIface .nilIface w w' := by
  have c0 := Lib.cell_of_heap hR 0
  have c1 := Lib.cell_of_heap hR 1
  have f0 := Lib.frozen_of_heap hR 0
  have f1 := Lib.frozen_of_heap hR 1
  simp at c0 c1
  have hRl : R < w.heap.size := (Array.getElem?_eq_some_iff.1 hR).1
  have hR1 : (w.setCell ⟨R, 1, none⟩ (.int .i32 1)).heap[R]? = some (.cells (repCells 0 1 0 .nilIface (.slice (some ⟨g, 0, none⟩) 8 c)) 182 (0, 0)) := set_same hR rfl
  have hld := Lib.cell_of_heap hR1 0
  simp at hld
  have hg1 : ∀ j x, (strCells quoteRow)[j]? = some x → (w.setCell ⟨R, 1, none⟩ (.int .i32 1)).cell? ⟨g, j, none⟩ = some x := fun j x hx => (World.cell?_of_block (Below.heap_setCell _ _ _ _ hgR)).trans (hg j x hx)
  have hnot : ∀ (x : Bool) (w : World), (Op.unary .not (.bool x)).run Tryz.prog w = .ok (.bool (!x)) w := fun _ _ => rfl
  go_enter_defers Tryz.func135, Tryz.ntmps135
  go_wp2_with (go_at_call 151; refine (lock_free ⟨R, 1, none⟩ _ c1 f1).mono ?_; rintro e w' ⟨rfl, rfl⟩)
  go_wp2_with (go_at_call 134; refine (atomic_load ⟨R, 0, none⟩ 0 false rfl _ hld).mono ?_; rintro e w' ⟨rfl, rfl⟩)
  go_wp2_with (go_at_call 111; refine (rep_buildOnce R g c 1 hR1 hg1).mono ?_)
  rintro e w2 ⟨T, w1, rfl, hT, hI, hb, rfl⟩
  have hsz0 : (w.setCell ⟨R, 1, none⟩ (.int .i32 1)).heap.size = w.heap.size := by simp [World.setCell]
  rw [hsz0] at hT hI hb
  have k1 := (hb.block R hRl).trans hR1
  have I1 := hI.store (R := R) k1 (by decide) (by decide) 3 (.iface 226 (.pointer (some ⟨T, 0, none⟩)))
  have k2 := set_same (i := 3) (v := .iface 226 (.pointer (some ⟨T, 0, none⟩))) k1 rfl
  have I2 := I1.store (R := R) k2 (by decide) (by decide) 4 (.slice none 0 0)
  have k3 := set_same (i := 4) (v := .slice none 0 0) k2 rfl
  have hm : ∀ k, k < w.heap.size → k ≠ R → ((w1.setCell ⟨R, 3, none⟩ (.iface 226 (.pointer (some ⟨T, 0, none⟩)))).setCell ⟨R, 4, none⟩ (.slice none 0 0)).heap[k]? = w.heap[k]? := fun k hk hn =>
    (Below.heap_setCell _ _ _ _ hn).trans ((Below.heap_setCell _ _ _ _ hn).trans ((hb.block k hk).trans (Below.heap_setCell _ _ _ _ hn)))
  have hms : w.heap.size ≤ ((w1.setCell ⟨R, 3, none⟩ (.iface 226 (.pointer (some ⟨T, 0, none⟩)))).setCell ⟨R, 4, none⟩ (.slice none 0 0)).heap.size := by have := hb.size; simp [World.setCell] at *; omega
  have hmo : ((w1.setCell ⟨R, 3, none⟩ (.iface 226 (.pointer (some ⟨T, 0, none⟩)))).setCell ⟨R, 4, none⟩ (.slice none 0 0)).os = w.os ∧ ((w1.setCell ⟨R, 3, none⟩ (.iface 226 (.pointer (some ⟨T, 0, none⟩)))).setCell ⟨R, 4, none⟩ (.slice none 0 0)).tape = w.tape ∧ ((w1.setCell ⟨R, 3, none⟩ (.iface 226 (.pointer (some ⟨T, 0, none⟩)))).setCell ⟨R, 4, none⟩ (.slice none 0 0)).output = w.output := ⟨hb.os, hb.tape, hb.output⟩
  generalize (w1.setCell ⟨R, 3, none⟩ (.iface 226 (.pointer (some ⟨T, 0, none⟩)))).setCell ⟨R, 4, none⟩ (.slice none 0 0) = w2 at *
  have HH := Lib.hid (And.intro I2 (And.intro k3 (And.intro hm (And.intro hms hmo))))
  clear I1 I2 k1 k2 hm hms hmo hI hb hR hg hR1 hg1
  go_wp2
  obtain ⟨J1, J2, J3, J4, J5, J6, J7⟩ := HH.out
  have e0 := Lib.cell_of_heap J2 0
  have z0 := Lib.frozen_of_heap J2 0
  have z1 := Lib.frozen_of_heap J2 1
  simp at e0
  have q1 := set_same (w := w2.drew) (i := 0) (v := .int .u32 1) J2 rfl
  have q2 := set_same (i := 1) (v := .int .i32 0) q1 rfl
  have I3 := TabInv.store (w := w2.drew) (R := R) (J1.below (Below.refl _ _).drew) J2 (by decide) (by decide) 0 (.int .u32 1)
  have I4 := I3.store (R := R) q1 (by decide) (by decide) 1 (.int .i32 0)
  refine leaves_cons (f := 153) (args := #[.pointer (some ⟨R, 0, none⟩), .bool true]) (by simp) (by simp [go_sem]) ?_
  refine (store_deferred ⟨R, 0, none⟩ (.int .u32 0) .returning _ e0 z0).mono ?_
  rintro e u' w'' ⟨rfl, rfl, rfl⟩
  refine leaves_cons (f := 152) (args := #[.pointer (some ⟨R, 1, none⟩)]) (by simp [settle]) (by simp [go_sem]) ?_
  refine (unlock_deferred ⟨R, 1, none⟩ _ _ (Lib.cell_of_heap q1 1) (Lib.frozen_of_heap q1 1)).mono ?_
  rintro e u' w'' ⟨rfl, rfl, rfl⟩
  have hfin : RepDone w.heap.size R T ((w2.drew.setCell ⟨R, 0, none⟩ (.int .u32 1)).setCell ⟨R, 1, none⟩ (.int .i32 0)) ∧ Moved R .nilIface .nilIface w ((w2.drew.setCell ⟨R, 0, none⟩ (.int .u32 1)).setCell ⟨R, 1, none⟩ (.int .i32 0)) :=
    ⟨⟨q2, I4⟩, J5, J6, J7, by simpa [World.setCell] using J4, fun k hk hn _ => (Below.heap_setCell _ _ _ _ hn).trans ((Below.heap_setCell _ _ _ _ hn).trans (J3 k hk hn)), fun k hk => by simp [Value.ownBlock] at hk⟩
  simp only [Leaves, settle]
  exact ⟨_, results_none Tryz.results135 _ _ _, rfl, T, hfin⟩
end Go.Proofs.YtejpkjcjoengbaaGreatDoor
