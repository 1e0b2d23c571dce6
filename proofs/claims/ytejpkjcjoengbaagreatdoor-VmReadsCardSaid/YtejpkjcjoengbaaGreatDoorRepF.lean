/-
  sync.Once.Do and (*strings.Replacer).Replace, by walk.
-/
import Derived.Test.YtejpkjcjoengbaaGreatDoorRepE
set_option linter.unusedVariables false
set_option linter.unusedSimpArgs false
namespace Go.Proofs.YtejpkjcjoengbaaGreatDoor
open Go.RowKit

set_option maxHeartbeats 1000000 in
set_option maxRecDepth 100000 in
theorem do_first {w : World} (R g c : Nat) (hR : w.heap[R]? = some (.cells (repCells 0 0 0 .nilIface (.slice (some ⟨g, 0, none⟩) 8 c)) 182 (0, 0))) (hgR : g ≠ R)
    (hg : ∀ j x, (strCells quoteRow)[j]? = some x → w.cell? ⟨g, j, none⟩ = some x) :
    Calls Tryz.prog 110 #[.pointer (some ⟨R, 0, none⟩), .func (.func 111) #[.pointer (some ⟨R, 0, none⟩)] #[]] w fun e w' => e = .returned (.tuple #[]) ∧ ∃ T, RepDone w.heap.size R T w' ∧ Moved R .nilIface .nilIface w w' := by
  have c0 := Lib.cell_of_heap hR 0
  simp at c0
  have hnot : ∀ (x : Bool) (w : World), (Op.unary .not (.bool x)).run Tryz.prog w = .ok (.bool (!x)) w := fun _ _ => rfl
  go_enter Tryz.func110, Tryz.ntmps110
  go_wp2_with (first | (go_at_call 134; refine (atomic_load ⟨R, 0, none⟩ 0 false rfl _ c0).mono ?_; rintro e w' ⟨rfl, rfl⟩) | (go_at_call 135; refine (rep_slow R g c hR hgR hg).mono ?_; rintro e w2 ⟨rfl, hq⟩))
  go_end0
  exact ⟨rfl, hq⟩

theorem do_done {w : World} (R : Nat) (fv : Value) (c0 : w.cell? ⟨R, 0, none⟩ = some (.int .u32 1)) :
    Calls Tryz.prog 110 #[.pointer (some ⟨R, 0, none⟩), fv] w fun e w' => e = .returned (.tuple #[]) ∧ w = w' := by
  have hnot : ∀ (x : Bool) (w : World), (Op.unary .not (.bool x)).run Tryz.prog w = .ok (.bool (!x)) w := fun _ _ => rfl
  go_enter Tryz.func110, Tryz.ntmps110
  go_wp2_with (go_at_call 134; refine (atomic_load ⟨R, 0, none⟩ 1 true rfl _ c0).mono ?_; rintro e w' ⟨rfl, rfl⟩)
  go_end0
  exact ⟨rfl, rfl⟩

set_option maxHeartbeats 1000000 in
set_option maxRecDepth 100000 in
theorem replace_first {w : World} (B R : Nat) (hN : RepNew B R w) (l : List UInt8) (hl : plainB l = true) :
    Calls Tryz.prog 75 #[.pointer (some ⟨R, 0, none⟩), .string (bs l)] w fun e w' => e = .returned (.string (bs l)) ∧ ∃ T, RepDone w.heap.size R T w' ∧ Moved R .nilIface .nilIface w w' := by
  obtain ⟨hB, v, hR, hown⟩ := hN
  obtain ⟨g, c, rfl, hgR⟩ : ∃ g c, v = .slice (some ⟨g, 0, none⟩) 8 c ∧ g ≠ R := by
    have hne := Lib.ownBlock_ne hown hR (by decide)
    rcases hown.2 with ⟨_, h0⟩ | ⟨g, cap, cur, hv, _⟩
    · simp [strCells, quoteRow] at h0
    · exact ⟨g, cap, by rw [hv], fun e => hne (by rw [hv]; simp [Value.ownBlock, e])⟩
  have hg : ∀ j x, (strCells quoteRow)[j]? = some x → w.cell? ⟨g, j, none⟩ = some x := fun j x hx => by
    have := hown.cells (g := g) rfl j x hx
    rw [add_plain] at this
    exact this
  have hmr : ∀ (T : Nat) (w : World), (method 428 226 (.pointer (some ⟨T, 0, none⟩)) "Replace").run Tryz.prog w = .ok (254, .pointer (some ⟨T, 0, none⟩)) w := fun _ _ => by kernel_rfl
  have hmf : ∀ (fn : Fn) (first cap : Array Value) (w : World), (Instr.makeFunc fn first cap).run Tryz.prog w = .ok (.func fn first cap) w := fun _ _ _ _ => rfl
  have HD := Lib.hid (do_first R g c hR hgR hg)
  clear hg hown
  go_enter Tryz.func75, Tryz.ntmps75
  go_wp2_with (go_at_call 110; refine HD.out.mono ?_)
  rintro e w2 ⟨rfl, T, ⟨hR2, hT⟩, hm⟩
  have c3 := Lib.cell_of_heap hR2 3
  simp at c3
  have HT := Lib.hid hT
  clear hT
  go_wp2_with (go_at_call 254; refine (rep_replace HT.out l hl).mono ?_; rintro e w3 ⟨rfl, rfl⟩)
  go_ret
  exact ⟨rfl, T, ⟨hR2, HT.out⟩, hm⟩

set_option maxHeartbeats 1000000 in
set_option maxRecDepth 100000 in
theorem replace_again {w : World} (B R T : Nat) (hN : RepDone B R T w) (l : List UInt8) (hl : plainB l = true) :
    Calls Tryz.prog 75 #[.pointer (some ⟨R, 0, none⟩), .string (bs l)] w fun e w' => e = .returned (.string (bs l)) ∧ w = w' := by
  obtain ⟨hR, hT⟩ := hN
  have hmr : ∀ (T : Nat) (w : World), (method 428 226 (.pointer (some ⟨T, 0, none⟩)) "Replace").run Tryz.prog w = .ok (254, .pointer (some ⟨T, 0, none⟩)) w := fun _ _ => by kernel_rfl
  have hmf : ∀ (fn : Fn) (first cap : Array Value) (w : World), (Instr.makeFunc fn first cap).run Tryz.prog w = .ok (.func fn first cap) w := fun _ _ _ _ => rfl
  have c0 := Lib.cell_of_heap hR 0
  have c3 := Lib.cell_of_heap hR 3
  simp at c0 c3
  have HT := Lib.hid hT
  clear hT
  go_enter Tryz.func75, Tryz.ntmps75
  go_wp2_with (first | (go_at_call 110; refine (do_done R _ c0).mono ?_; rintro e w' ⟨rfl, rfl⟩) | (go_at_call 254; refine (rep_replace HT.out l hl).mono ?_; rintro e w3 ⟨rfl, rfl⟩))
  go_ret
  exact ⟨rfl, rfl⟩
end Go.Proofs.YtejpkjcjoengbaaGreatDoor
