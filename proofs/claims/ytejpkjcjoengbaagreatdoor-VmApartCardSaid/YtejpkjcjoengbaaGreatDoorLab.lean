/-
  A map from texts to numbers that the call has made, as a plain function (of no function of the program).
-/
import Derived.Test.YtejpkjcjoengbaaGreatDoorVmG
import Derived.Maps.OwnOps
import Derived.Maps.OwnSet
set_option linter.unusedVariables false
set_option linter.unusedSimpArgs false
namespace Go.Proofs.YtejpkjcjoengbaaGreatDoor
open Go.RowKit Go.Maps Go.WideMaps Go.ChangeMaps

theorem lawStr : Keyed Tryz.prog 9 := string_keyed Tryz.underlying9
theorem zeroInt (w : World) : (zeroValue 3).run Tryz.prog w = .ok (.int .i64 0) w := by kernel_rfl
theorem bs_toList (x : List UInt8) : (bs x).data.toList = x := by simp [bs]
theorem keyStr (x : List UInt8) (hx : x.length ≤ maxLen) : keyOf Tryz.prog 9 (.string (bs x)) = some (.string x) := by
  rw [keyOf_string_mk Tryz.underlying9 (by rw [bs_size]; exact hx), bs_toList]

/-- The map at block M reads as f; of at most k entries. -/
def LabM (M k : Nat) (f : List UInt8 → Int) (w : World) : Prop :=
  ∃ D : DataW Unit, w.ownsMap Tryz.prog 9 (plainElem Tryz.prog 3) M k D ∧ IsMap D ∧ ∀ x : List UInt8, D.atKey (.string x) (.lit (.int .i64 0)) = .lit (.int .i64 (f x))
theorem LabM.made (w : World) : LabM w.heap.size 0 (fun _ => 0) (w.alloc (.map #[] 0)) := ⟨.map [], World.ownsMap_made _ _ _ _, isMap_empty, fun x => rfl⟩
theorem LabM.lt {M k : Nat} {f : List UInt8 → Int} {w : World} (h : LabM M k f w) : M < w.heap.size := by obtain ⟨D, h1, _⟩ := h; exact h1.lt
theorem LabM.kept {M k : Nat} {f : List UInt8 → Int} {w w' : World} (h : LabM M k f w) (hk : w'.heap[M]? = w.heap[M]?) : LabM M k f w' := by
  obtain ⟨D, ⟨es, clock, hb, h1⟩, h2⟩ := h
  exact ⟨D, ⟨es, clock, hk.trans hb, h1⟩, h2⟩
theorem LabM.mono {M k k' : Nat} {f : List UInt8 → Int} {w : World} (h : LabM M k f w) (hk : k ≤ k') : LabM M k' f w := by
  obtain ⟨D, h1, h2⟩ := h
  exact ⟨D, h1.mono hk, h2⟩
theorem LabM.below {M k : Nat} {f : List UInt8 → Int} {w w' : World} (h : LabM M k f w) (hb : Below w.heap.size w w') : LabM M k f w' := h.kept (hb.block _ h.lt)
theorem LabM.get {M k : Nat} {f : List UInt8 → Int} {w : World} (h : LabM M k f w) (x : List UInt8) (hx : x.length ≤ maxLen) :
    (Instr.lookup 69 (.map (some M)) (.string (bs x)) false).run Tryz.prog w = .ok (.int .i64 (f x)) w := by
  obtain ⟨D, h1, h2, h3⟩ := h
  obtain ⟨c, hrun, hat, _⟩ := h1.lookup_int lawStr Tryz.underlying69 Tryz.underlying3 (zeroInt w) (keyStr x hx)
  rw [h3 x] at hat
  have hc : f x = c := by
    have := DataW.lit.inj hat
    exact (Lit.int.inj this).2
  rw [hrun, hc]
theorem LabM.set {M k : Nat} {f : List UInt8 → Int} {w : World} (h : LabM M k f w) (hk : k < maxLen) (x : List UInt8) (hx : x.length ≤ maxLen) (v : Int) (hv : (Lit.int .i64 v).wf = true) :
    ∃ w', (Instr.mapUpdate 69 (.map (some M)) (.string (bs x)) (.int .i64 v)).run Tryz.prog w = .ok () w' ∧ LabM M (k + 1) (fun y => if y = x then v else f y) w' ∧ w.grownBy w' (some M) := by
  obtain ⟨D, h1, h2, h3⟩ := h
  obtain ⟨w', hrun, h4, h5⟩ := h1.update lawStr Tryz.underlying69 hk (keyStr x hx) (plainElem_int Tryz.underlying3 hv)
  refine ⟨w', hrun, ⟨_, h4, h4.isMap, fun y => ?_⟩, h5⟩
  dsimp only
  by_cases hy : y = x
  · subst hy
    rw [if_pos rfl, atKey_put_same h2 (by simp [WideAt.IsKeyLit])]
  · rw [if_neg hy, atKey_put_other (by intro e; injection e with e; exact hy e), h3]
end Go.Proofs.YtejpkjcjoengbaaGreatDoor
