/-
  vm.isLabel, by walk; looking up an operation.
-/
import Derived.Test.YtejpkjcjoengbaaGreatDoorVmK
set_option linter.unusedVariables false
set_option linter.unusedSimpArgs false
namespace Go.Proofs.YtejpkjcjoengbaaGreatDoor
open Go.RowKit

def letters26 : List UInt8 := [97, 98, 99, 100, 101, 102, 103, 104, 105, 106, 107, 108, 109, 110, 111, 112, 113, 114, 115, 116, 117, 118, 119, 120, 121, 122]
theorem trim_letters (s : ByteArray) (w : World) (hs : s.size ≤ maxLen) :
    Calls Tryz.prog 27 #[.string s, .string ⟨#[97, 98, 99, 100, 101, 102, 103, 104, 105, 106, 107, 108, 109, 110, 111, 112, 113, 114, 115, 116, 117, 118, 119, 120, 121, 122]⟩] w fun e w' => e = .returned (.string ⟨(Lib.trimS s.data.toList letters26).toArray⟩) ∧ Below w.heap.size w w' :=
  Any.strings_Trim_laid Tryz.lays160 (by kernel_rfl) s _ w (by unfold maxLen at hs; omega) (by decide) (ascii_of_all (by decide))

def labelB (l : List UInt8) : Bool := l != [] && decide (l.length ≤ 20) && (Lib.trimS l letters26).isEmpty

set_option maxHeartbeats 1000000 in
set_option maxRecDepth 100000 in
theorem vm_isLabel (l : List UInt8) (hl : l.length ≤ 1000000) {w : World} :
    Calls Tryz.prog 32 #[.string (bs l)] w fun e w' => e = .returned (.bool (labelB l)) ∧ Below w.heap.size w w' := by
  have hsz : (bs l).size = l.length := bs_size l
  have hdl : (bs l).data.toList = l := by simp [bs]
  by_cases h0 : l = []
  · subst h0
    have h00 : bs [] = ⟨#[]⟩ := rfl
    go_enter Tryz.func32, Tryz.ntmps32
    go_wp2
    go_ret
    exact ⟨rfl, Below.refl _ _⟩
  · have hne : (l == []) = false := by simp [h0]
    have hn2 : (l != []) = true := by simp [h0]
    by_cases h20 : l.length ≤ 20
    · have hB : labelB l = (Lib.trimS l letters26).isEmpty := by simp [labelB, h0, h20]
      go_enter Tryz.func32, Tryz.ntmps32
      go_wp2_with (go_at_call 27; refine (trim_letters (bs l) w (by rw [hsz]; unfold maxLen; omega)).mono ?_; rintro e w1 ⟨rfl, hb⟩; rw [hdl])
      go_ret
      rw [hB]
      exact ⟨rfl, hb⟩
    · have hB : labelB l = false := by simp [labelB, h0, h20]
      rw [hB]
      go_enter Tryz.func32, Tryz.ntmps32
      go_wp2
      go_ret
      exact ⟨rfl, Below.refl _ _⟩

/-- The function that a word stands for. -/
def opF (x : List UInt8) : Option FuncId := (opsList.find? fun p => p.1 == x).map (·.2)
abbrev opEntry (p : (List UInt8 × FuncId) × Nat) : MapEntry := { key := .string (bs p.1.1), val := .func (.func p.1.2) #[] #[], born := p.2 }
theorem findNow_entries (x : List UInt8) : ∀ (l : List (List UInt8 × FuncId)) (n j : Nat), ∃ i, Instr.findNow .string (.string (bs x)) ((l.zipIdx n).map opEntry) j = some (((l.find? fun p => p.1 == x).map (·.2)).map fun f => (i, .func (.func f) #[] #[]))
  | [], n, j => ⟨0, rfl⟩
  | p :: l, n, j => by
    rw [List.zipIdx_cons, List.map_cons]
    by_cases h : p.1 = x
    · refine ⟨j, ?_⟩
      have h1 : (bs x == bs p.1) = true := by rw [h]; exact (Go.MapKept.bytes_beq _ _).2 rfl
      have h2 : (p.1 == x) = true := by simp [h]
      simp [Instr.findNow, Instr.sameNow, h1, List.find?_cons, h2]
    · have h1 : (bs x == bs p.1) = false := bs_ne (fun e => h e.symm)
      have h2 : (p.1 == x) = false := by simp [h]
      obtain ⟨i, hi⟩ := findNow_entries x l (n + 1) (j + 1)
      refine ⟨i, ?_⟩
      simp only [Instr.findNow, Instr.sameNow, h1, List.find?_cons, h2]
      exact hi
theorem ops_look (x : List UInt8) : ∃ i, Instr.findNow .string (.string (bs x)) (opsE 21).toList 0 = some ((opF x).map fun f => (i, .func (.func f) #[] #[])) := by
  obtain ⟨i, hi⟩ := findNow_entries x opsList 0 0
  refine ⟨i, ?_⟩
  have : (opsE 21).toList = (opsList.zipIdx 0).map opEntry := by
    unfold opsE
    rw [List.take_of_length_le (by decide)]
  rw [this]
  exact hi
theorem ops_lookup {W : World} {M : Nat} (hM : W.heap[M]? = some (.map (opsE 21) 21)) (x : List UInt8) (f : FuncId) (hx : opF x = some f) :
    (Instr.lookup 74 (.map (some M)) (.string (bs x)) false).run Tryz.prog W = .ok (.func (.func f) #[] #[]) W ∧
    (Instr.lookup 74 (.map (some M)) (.string (bs x)) true).run Tryz.prog W = .ok (.tuple #[.func (.func f) #[] #[], .bool true]) W := by
  obtain ⟨i, hi⟩ := ops_look x
  rw [hx] at hi
  have hc : ∀ b, (Instr.checkKey b 10000 9 (.string (bs x))).run Tryz.prog W = .ok () W := fun b => MapKept.run_checkKey (k := .string (bs x)) Tryz.underlying9 (by simp [MapKept.IsKey]) b 9999
  constructor
  · simp [Instr.lookup, run_underlying Tryz.underlying74, MapKept.run_getObj_map hM, hc, MapKept.run_findKey Tryz.underlying9 hi, Result.andThen]
  · simp [Instr.lookup, run_underlying Tryz.underlying74, MapKept.run_getObj_map hM, hc, MapKept.run_findKey Tryz.underlying9 hi, Result.andThen]
end Go.Proofs.YtejpkjcjoengbaaGreatDoor
