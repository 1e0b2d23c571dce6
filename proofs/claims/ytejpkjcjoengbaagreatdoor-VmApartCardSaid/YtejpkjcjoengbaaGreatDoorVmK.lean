/-
  vm.operations: the table of the operations, by walk; what stands in it.
-/
import Derived.Test.YtejpkjcjoengbaaGreatDoorVmJ
import Derived.MapKept
set_option linter.unusedVariables false
set_option linter.unusedSimpArgs false
namespace Go.Proofs.YtejpkjcjoengbaaGreatDoor
open Go.RowKit

def opsList : List (List UInt8 × FuncId) := [([112, 117, 115, 104], 33), ([108, 97, 98, 101, 108], 35), ([106, 117, 109, 112], 36), ([105, 102], 37), ([101, 110, 118], 38), ([97, 114, 103], 39), ([114, 101, 97, 100], 40), ([108, 105, 115, 116], 41), ([99, 97, 116], 42), ([100, 117, 112], 43), ([115, 119, 97, 112], 44), ([100, 114, 111, 112], 45), ([108, 101, 110], 46), ([101, 113], 47), ([97, 100, 100], 48), ([115, 117, 98], 49), ([102, 105, 108, 101], 50), ([101, 120, 101, 99], 51), ([100, 105, 114], 52), ([108, 105, 110, 107], 53), ([102, 97, 105, 108], 54)]
def opsE (k : Nat) : Array MapEntry := ((opsList.take k).zipIdx.map fun p => { key := .string (bs p.1.1), val := .func (.func p.1.2) #[] #[], born := p.2 : MapEntry }).toArray

theorem map_put_new {P : Program} (W : World) (es : Array MapEntry) (clock : Nat) (mty kt et : TypeId) (s : ByteArray) (val : Value) (hm : P.underlying mty = some (.map kt et)) (hk : P.underlying kt = some .string) (hf : Instr.findNow .string (.string s) es.toList 0 = some none) :
    (Instr.mapUpdate mty (.map (some W.heap.size)) (.string s) val).run P (W.alloc (.map es clock)) = .ok () (W.alloc (.map (es.push { key := .string s, val := val, born := clock }) (clock + 1))) := by
  have key : ∀ W' : World, ∀ r : Nat, W'.heap[r]? = some (.map es clock) → (Instr.mapUpdate mty (.map (some r)) (.string s) val).run P W' = .ok () { W' with heap := W'.heap.setIfInBounds r (.map (es.push { key := .string s, val := val, born := clock }) (clock + 1)) } := by
    intro W' r hb
    have hc : (Instr.checkKey false 10000 kt (.string s)).run P W' = .ok () W' := MapKept.run_checkKey (k := .string s) hk (by simp [MapKept.IsKey]) false 9999
    simp [Instr.mapUpdate, run_underlying hm, MapKept.run_getObj_map hb, hc, MapKept.run_findKey hk hf, MapKept.run_setObj_map _ hb, Result.andThen]
  rw [key _ _ (heap_alloc_new W (.map es clock))]
  have : (W.alloc (.map es clock)).heap.setIfInBounds W.heap.size (.map (es.push { key := .string s, val := val, born := clock }) (clock + 1)) = (W.alloc (.map (es.push { key := .string s, val := val, born := clock }) (clock + 1))).heap := by
    show (W.heap.push _).setIfInBounds W.heap.size _ = W.heap.push _
    apply Array.ext
    · simp
    · intro i h1 h2
      simp at h1 h2
      by_cases h : i = W.heap.size
      · subst h; simp
      · rw [Array.getElem_setIfInBounds_ne (by simpa using h1) (by omega), Array.getElem_push_lt (by omega), Array.getElem_push_lt (by omega)]
  rw [this]
  rfl

theorem ops_make (W : World) : (Instr.makeMap 74 none).run Tryz.prog W = .ok (.map (some W.heap.size)) (W.alloc (.map (opsE 0) 0)) := rfl
theorem ops_put0 (W : World) : (Instr.mapUpdate 74 (.map (some W.heap.size)) (.string ⟨#[112, 117, 115, 104]⟩) (.func (.func 33) #[] #[])).run Tryz.prog (W.alloc (.map (opsE 0) 0)) = .ok () (W.alloc (.map (opsE 1) 1)) :=
  map_put_new W (opsE 0) 0 _ _ _ ⟨#[112, 117, 115, 104]⟩ _ Tryz.underlying74 Tryz.underlying9 (by rfl)
theorem ops_put1 (W : World) : (Instr.mapUpdate 74 (.map (some W.heap.size)) (.string ⟨#[108, 97, 98, 101, 108]⟩) (.func (.func 35) #[] #[])).run Tryz.prog (W.alloc (.map (opsE 1) 1)) = .ok () (W.alloc (.map (opsE 2) 2)) :=
  map_put_new W (opsE 1) 1 _ _ _ ⟨#[108, 97, 98, 101, 108]⟩ _ Tryz.underlying74 Tryz.underlying9 (by rfl)
theorem ops_put2 (W : World) : (Instr.mapUpdate 74 (.map (some W.heap.size)) (.string ⟨#[106, 117, 109, 112]⟩) (.func (.func 36) #[] #[])).run Tryz.prog (W.alloc (.map (opsE 2) 2)) = .ok () (W.alloc (.map (opsE 3) 3)) :=
  map_put_new W (opsE 2) 2 _ _ _ ⟨#[106, 117, 109, 112]⟩ _ Tryz.underlying74 Tryz.underlying9 (by rfl)
theorem ops_put3 (W : World) : (Instr.mapUpdate 74 (.map (some W.heap.size)) (.string ⟨#[105, 102]⟩) (.func (.func 37) #[] #[])).run Tryz.prog (W.alloc (.map (opsE 3) 3)) = .ok () (W.alloc (.map (opsE 4) 4)) :=
  map_put_new W (opsE 3) 3 _ _ _ ⟨#[105, 102]⟩ _ Tryz.underlying74 Tryz.underlying9 (by rfl)
theorem ops_put4 (W : World) : (Instr.mapUpdate 74 (.map (some W.heap.size)) (.string ⟨#[101, 110, 118]⟩) (.func (.func 38) #[] #[])).run Tryz.prog (W.alloc (.map (opsE 4) 4)) = .ok () (W.alloc (.map (opsE 5) 5)) :=
  map_put_new W (opsE 4) 4 _ _ _ ⟨#[101, 110, 118]⟩ _ Tryz.underlying74 Tryz.underlying9 (by rfl)
theorem ops_put5 (W : World) : (Instr.mapUpdate 74 (.map (some W.heap.size)) (.string ⟨#[97, 114, 103]⟩) (.func (.func 39) #[] #[])).run Tryz.prog (W.alloc (.map (opsE 5) 5)) = .ok () (W.alloc (.map (opsE 6) 6)) :=
  map_put_new W (opsE 5) 5 _ _ _ ⟨#[97, 114, 103]⟩ _ Tryz.underlying74 Tryz.underlying9 (by rfl)
theorem ops_put6 (W : World) : (Instr.mapUpdate 74 (.map (some W.heap.size)) (.string ⟨#[114, 101, 97, 100]⟩) (.func (.func 40) #[] #[])).run Tryz.prog (W.alloc (.map (opsE 6) 6)) = .ok () (W.alloc (.map (opsE 7) 7)) :=
  map_put_new W (opsE 6) 6 _ _ _ ⟨#[114, 101, 97, 100]⟩ _ Tryz.underlying74 Tryz.underlying9 (by rfl)
theorem ops_put7 (W : World) : (Instr.mapUpdate 74 (.map (some W.heap.size)) (.string ⟨#[108, 105, 115, 116]⟩) (.func (.func 41) #[] #[])).run Tryz.prog (W.alloc (.map (opsE 7) 7)) = .ok () (W.alloc (.map (opsE 8) 8)) :=
  map_put_new W (opsE 7) 7 _ _ _ ⟨#[108, 105, 115, 116]⟩ _ Tryz.underlying74 Tryz.underlying9 (by rfl)
theorem ops_put8 (W : World) : (Instr.mapUpdate 74 (.map (some W.heap.size)) (.string ⟨#[99, 97, 116]⟩) (.func (.func 42) #[] #[])).run Tryz.prog (W.alloc (.map (opsE 8) 8)) = .ok () (W.alloc (.map (opsE 9) 9)) :=
  map_put_new W (opsE 8) 8 _ _ _ ⟨#[99, 97, 116]⟩ _ Tryz.underlying74 Tryz.underlying9 (by rfl)
theorem ops_put9 (W : World) : (Instr.mapUpdate 74 (.map (some W.heap.size)) (.string ⟨#[100, 117, 112]⟩) (.func (.func 43) #[] #[])).run Tryz.prog (W.alloc (.map (opsE 9) 9)) = .ok () (W.alloc (.map (opsE 10) 10)) :=
  map_put_new W (opsE 9) 9 _ _ _ ⟨#[100, 117, 112]⟩ _ Tryz.underlying74 Tryz.underlying9 (by rfl)
theorem ops_put10 (W : World) : (Instr.mapUpdate 74 (.map (some W.heap.size)) (.string ⟨#[115, 119, 97, 112]⟩) (.func (.func 44) #[] #[])).run Tryz.prog (W.alloc (.map (opsE 10) 10)) = .ok () (W.alloc (.map (opsE 11) 11)) :=
  map_put_new W (opsE 10) 10 _ _ _ ⟨#[115, 119, 97, 112]⟩ _ Tryz.underlying74 Tryz.underlying9 (by rfl)
theorem ops_put11 (W : World) : (Instr.mapUpdate 74 (.map (some W.heap.size)) (.string ⟨#[100, 114, 111, 112]⟩) (.func (.func 45) #[] #[])).run Tryz.prog (W.alloc (.map (opsE 11) 11)) = .ok () (W.alloc (.map (opsE 12) 12)) :=
  map_put_new W (opsE 11) 11 _ _ _ ⟨#[100, 114, 111, 112]⟩ _ Tryz.underlying74 Tryz.underlying9 (by rfl)
theorem ops_put12 (W : World) : (Instr.mapUpdate 74 (.map (some W.heap.size)) (.string ⟨#[108, 101, 110]⟩) (.func (.func 46) #[] #[])).run Tryz.prog (W.alloc (.map (opsE 12) 12)) = .ok () (W.alloc (.map (opsE 13) 13)) :=
  map_put_new W (opsE 12) 12 _ _ _ ⟨#[108, 101, 110]⟩ _ Tryz.underlying74 Tryz.underlying9 (by rfl)
theorem ops_put13 (W : World) : (Instr.mapUpdate 74 (.map (some W.heap.size)) (.string ⟨#[101, 113]⟩) (.func (.func 47) #[] #[])).run Tryz.prog (W.alloc (.map (opsE 13) 13)) = .ok () (W.alloc (.map (opsE 14) 14)) :=
  map_put_new W (opsE 13) 13 _ _ _ ⟨#[101, 113]⟩ _ Tryz.underlying74 Tryz.underlying9 (by rfl)
theorem ops_put14 (W : World) : (Instr.mapUpdate 74 (.map (some W.heap.size)) (.string ⟨#[97, 100, 100]⟩) (.func (.func 48) #[] #[])).run Tryz.prog (W.alloc (.map (opsE 14) 14)) = .ok () (W.alloc (.map (opsE 15) 15)) :=
  map_put_new W (opsE 14) 14 _ _ _ ⟨#[97, 100, 100]⟩ _ Tryz.underlying74 Tryz.underlying9 (by rfl)
theorem ops_put15 (W : World) : (Instr.mapUpdate 74 (.map (some W.heap.size)) (.string ⟨#[115, 117, 98]⟩) (.func (.func 49) #[] #[])).run Tryz.prog (W.alloc (.map (opsE 15) 15)) = .ok () (W.alloc (.map (opsE 16) 16)) :=
  map_put_new W (opsE 15) 15 _ _ _ ⟨#[115, 117, 98]⟩ _ Tryz.underlying74 Tryz.underlying9 (by rfl)
theorem ops_put16 (W : World) : (Instr.mapUpdate 74 (.map (some W.heap.size)) (.string ⟨#[102, 105, 108, 101]⟩) (.func (.func 50) #[] #[])).run Tryz.prog (W.alloc (.map (opsE 16) 16)) = .ok () (W.alloc (.map (opsE 17) 17)) :=
  map_put_new W (opsE 16) 16 _ _ _ ⟨#[102, 105, 108, 101]⟩ _ Tryz.underlying74 Tryz.underlying9 (by rfl)
theorem ops_put17 (W : World) : (Instr.mapUpdate 74 (.map (some W.heap.size)) (.string ⟨#[101, 120, 101, 99]⟩) (.func (.func 51) #[] #[])).run Tryz.prog (W.alloc (.map (opsE 17) 17)) = .ok () (W.alloc (.map (opsE 18) 18)) :=
  map_put_new W (opsE 17) 17 _ _ _ ⟨#[101, 120, 101, 99]⟩ _ Tryz.underlying74 Tryz.underlying9 (by rfl)
theorem ops_put18 (W : World) : (Instr.mapUpdate 74 (.map (some W.heap.size)) (.string ⟨#[100, 105, 114]⟩) (.func (.func 52) #[] #[])).run Tryz.prog (W.alloc (.map (opsE 18) 18)) = .ok () (W.alloc (.map (opsE 19) 19)) :=
  map_put_new W (opsE 18) 18 _ _ _ ⟨#[100, 105, 114]⟩ _ Tryz.underlying74 Tryz.underlying9 (by rfl)
theorem ops_put19 (W : World) : (Instr.mapUpdate 74 (.map (some W.heap.size)) (.string ⟨#[108, 105, 110, 107]⟩) (.func (.func 53) #[] #[])).run Tryz.prog (W.alloc (.map (opsE 19) 19)) = .ok () (W.alloc (.map (opsE 20) 20)) :=
  map_put_new W (opsE 19) 19 _ _ _ ⟨#[108, 105, 110, 107]⟩ _ Tryz.underlying74 Tryz.underlying9 (by rfl)
theorem ops_put20 (W : World) : (Instr.mapUpdate 74 (.map (some W.heap.size)) (.string ⟨#[102, 97, 105, 108]⟩) (.func (.func 54) #[] #[])).run Tryz.prog (W.alloc (.map (opsE 20) 20)) = .ok () (W.alloc (.map (opsE 21) 21)) :=
  map_put_new W (opsE 20) 20 _ _ _ ⟨#[102, 97, 105, 108]⟩ _ Tryz.underlying74 Tryz.underlying9 (by rfl)

set_option maxHeartbeats 1000000 in
set_option maxRecDepth 100000 in
theorem vm_operations {w : World} :
    Calls Tryz.prog 19 #[] w fun e w' => e = .returned (.map (some w.heap.size)) ∧ w' = w.alloc (.map (opsE 21) 21) := by
  have hmk := ops_make
  have hp0 := ops_put0
  have hp1 := ops_put1
  have hp2 := ops_put2
  have hp3 := ops_put3
  have hp4 := ops_put4
  have hp5 := ops_put5
  have hp6 := ops_put6
  have hp7 := ops_put7
  have hp8 := ops_put8
  have hp9 := ops_put9
  have hp10 := ops_put10
  have hp11 := ops_put11
  have hp12 := ops_put12
  have hp13 := ops_put13
  have hp14 := ops_put14
  have hp15 := ops_put15
  have hp16 := ops_put16
  have hp17 := ops_put17
  have hp18 := ops_put18
  have hp19 := ops_put19
  have hp20 := ops_put20
  go_enter Tryz.func19, Tryz.ntmps19
  go_wp2
  go_ret
  exact ⟨rfl, rfl⟩
end Go.Proofs.YtejpkjcjoengbaaGreatDoor
