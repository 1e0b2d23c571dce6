/-
  A world for the witness: the heap that the door's own run leaves, and Go's own table in its place.
-/
import Derived.Test.YtejpkjcjoengbaaGreatDoorCards
import Derived.Test.YtejpkjcjoengbaaGreatDoorTie
import Derived.Test.YtejpkjcjoengbaaGreatDoorGlob
import Derived.ProofKit
import Derived.OpenShut
import Derived.Deep.DeepHandedRow
import Derived.Lib.LaidTab
import Derived.LaidLaws
import Derived.LaidHandle
import Derived.LaidMore
import Derived.PinnedBridge
import Derived.LaidOnce
import Derived.Deep.DeepWitnessRowRef
set_option linter.unusedVariables false
set_option linter.unusedSimpArgs false
namespace Go.Proofs.YtejpkjcjoengbaaGreatDoor
open Go.ChangeShapes Go.WideShapes Go.ChangeAt Go.RowKit

theorem own : ownKnob Tryz.prog.godebug = none := by kernel_rfl

theorem laidVars_at {P : Program} {w : World} : ∀ {l : List (String × DataW Unit)} {ps : List MemPlace}, DataW.LaidVars P w l ps → ∀ {n : String} {d : DataW Unit}, (n, d) ∈ l →
    ∃ g t cs fuel p, P.globalNamed n = some g ∧ (P.globals[g]?).map (·.type) = some t ∧ w.var? P n = some cs ∧ DataW.trod (fun _ => ()) P w 0 (fun _ => true) false fuel t cs.toList = some (d, p)
  | [], ps, h, n, d, hm => by cases hm
  | (n0, d0) :: r, ps, h, n, d, hm => by
    obtain ⟨g, t, cs, fuel, p, q, h1, h2, h3, h4, h5, _⟩ := h
    rcases List.mem_cons.1 hm with e | hm
    · injection e with e1 e2
      subst e1 e2
      exact ⟨g, t, cs, fuel, p, h1, h2, h3, h4⟩
    · exact laidVars_at h5 hm
theorem strs_of_tab {P : Program} {W : World} {fuel n : Nat} {t e : TypeId} {cs : List Value} {l : List (List UInt8)} {p : List MemPlace} (ht : P.underlying t = some (.array n e)) (he : P.underlying e = some .string) (hce : P.cellsOf e = 1) (hct : P.cellsOf t = n)
    (h : DataW.trod (fun _ => ()) P W 0 (fun _ => true) false fuel t cs = some (.agg (l.map fun x => .lit (.string x)), p)) : cs = l.map fun x => Value.string (bs x) := by
  obtain ⟨xs, m, _, hx, hcl, hxl, hall⟩ := DataW.trod_array ht h
  injection hx with hx1 hx2
  injection hx1 with hx1
  have hl : l.length = n := by
    have := congrArg List.length hx1
    simp at this
    omega
  rw [hct] at hcl
  apply List.ext_getElem?
  intro i
  by_cases hi : i < n
  · have h1 := hall i hi
    rw [hce, Nat.mul_one] at h1
    have h2 : (cs.drop i).take 1 = [cs[i]'(by omega)] := by
      rw [List.drop_eq_getElem_cons (by omega)]
      rfl
    rw [h2] at h1
    have h3 : xs[i]? = some (xs[i]'(by omega)) := List.getElem?_eq_getElem (by omega)
    rw [h3] at h1
    obtain ⟨s, hs, hxs, _⟩ := DataW.trod_string he h1
    injection hs with hs
    have h4 : (l.map fun x => (DataW.lit (.string x) : DataW Unit))[i]? = (xs.map (·.1))[i]? := by rw [hx1]
    rw [List.getElem?_map, List.getElem?_map, h3, List.getElem?_eq_getElem (show i < l.length by omega)] at h4
    simp only [Option.map_some, Option.some.injEq] at h4
    rw [hxs] at h4
    simp only [DataW.lit.injEq, Lit.string.injEq] at h4
    rw [List.getElem?_eq_getElem (show i < cs.length by omega), List.getElem?_map, List.getElem?_eq_getElem (show i < l.length by omega), hs, h4]
    simp [bs]
  · rw [List.getElem?_eq_none (by omega), List.getElem?_eq_none (by rw [List.length_map]; omega)]

theorem et : Tryz.prog.globalNamed "errors.errorType" = some 0 := by kernel_rfl
theorem rt : (Tryz.prog.cutTypes.find? (·.1 == "internal/reflectlite.rtype")).map (·.2) = some 109 := by kernel_rfl
theorem oneRow : ((List.range Tryz.prog.types.size).filter fun t => Tryz.prog.rowNamed t [101, 114, 114, 111, 114]) = [58] := by kernel_rfl

def laidAll : List (String × DataW Unit) := Rows.vmCountsRow.laid
def laidData : List (String × DataW Unit) := [("math/bits.deBruijn32tab", Rows.laid_math_bits_deBruijn32tab), ("math/bits.deBruijn64tab", Rows.laid_math_bits_deBruijn64tab), ("internal/strconv.uint64pow10", Rows.laid_internal_strconv_uint64pow10), ("unicode/utf8.acceptRanges", Rows.laid_unicode_utf8_acceptRanges), ("strconv.ErrRange", Rows.laid_strconv_ErrRange), ("strconv.ErrSyntax", Rows.laid_strconv_ErrSyntax), ("stillroom/lex.words", Rows.laid_stillroom_lex_words), ("stillroom/lex.signs", Rows.laid_stillroom_lex_signs), ("unicode/utf8.first", Rows.laid_unicode_utf8_first)]
theorem laid_split {W : World} (h : laidMetH Tryz.prog laidAll W) : laidMet Tryz.prog laidData W ∧ handlesMet Tryz.prog [("errors.errorType", Rows.laid_errors_errorType)] W := h

theorem handle_of_laid {W : World} (h : handlesMet Tryz.prog [("errors.errorType", Rows.laid_errors_errorType)] W) : W.cell? ⟨0, 0, none⟩ = some (.iface 109 (.agg #[.pointer (some ⟨Tryz.prog.globals.size, 58, none⟩)])) := by
  obtain ⟨name, u, ty, e1, e2, e3, e4, e5⟩ := h _ (List.mem_singleton.2 rfl)
  have en : name = [101, 114, 114, 111, 114] := (Option.some.inj e1).symm
  subst en
  obtain rfl := Option.some.inj (rt.symm.trans e2)
  have hm : ty ∈ (List.range Tryz.prog.types.size).filter fun t => Tryz.prog.rowNamed t [101, 114, 114, 111, 114] := List.mem_filter.2 ⟨List.mem_range.2 e3, e4⟩
  rw [oneRow] at hm
  obtain rfl := List.mem_singleton.1 hm
  have hh : typeHandle Tryz.prog 58 = .pointer (some ⟨Tryz.prog.globals.size, 58, none⟩) := by kernel_rfl
  rw [hh] at e5
  simpa using World.var?_cell et e5 0

theorem tWords : (Tryz.prog.globals[1]?).map (·.type) = some 163 := by kernel_rfl
theorem tSigns : (Tryz.prog.globals[2]?).map (·.type) = some 165 := by kernel_rfl
theorem tPow : (Tryz.prog.globals[8]?).map (·.type) = some 263 := by kernel_rfl
theorem tSyn : (Tryz.prog.globals[6]?).map (·.type) = some 58 := by kernel_rfl
theorem tRan : (Tryz.prog.globals[7]?).map (·.type) = some 58 := by kernel_rfl
theorem cStr : Tryz.prog.cellsOf 9 = 1 := by kernel_rfl
theorem cWords : Tryz.prog.cellsOf 163 = 6 := by kernel_rfl
theorem cSigns : Tryz.prog.cellsOf 165 = 25 := by kernel_rfl
theorem cPow : Tryz.prog.cellsOf 263 = 20 := by kernel_rfl
theorem cU64 : Tryz.prog.cellsOf 235 = 1 := by kernel_rfl
theorem maxl_of {W : World} (hS : W.ShapedOpen Tryz.prog) : ∃ m, W.cell? ⟨3, 0, none⟩ = some (.int .i64 m) :=
  cell_of_shapedOpen_int (zero := #[.int .i64 0]) (t := 3) hS (of_decide_eq_true (by kernel_rfl)) (by kernel_rfl) rfl (by kernel_rfl) (by kernel_rfl) Tryz.underlying3
theorem size_of {W : World} (hS : W.ShapedOpen Tryz.prog) : Tryz.prog.globals.size + 1 ≤ W.heap.size := by
  obtain ⟨o, o₀, h1, _⟩ := hS.2 Tryz.prog.globals.size (Nat.le_refl _) (of_decide_eq_true (by kernel_rfl))
  have := (Array.getElem?_eq_some_iff.1 h1).1
  omega

theorem glob_of {W : World} (hL : laidMetH Tryz.prog laidAll W) (hS : W.ShapedOpen Tryz.prog) : Glob W := by
  obtain ⟨⟨ps, hv, _⟩, hh⟩ := laid_split hL
  refine ⟨?_, ?_, ?_, maxl_of hS, ?_, ?_, handle_of_laid hh, size_of hS⟩
  · obtain ⟨g, t, cs, fuel, p, hg, ht, hc, hd⟩ := laidVars_at hv (n := "stillroom/lex.words") (d := Rows.laid_stillroom_lex_words) (by unfold laidData; simp)
    obtain rfl := Option.some.inj (gWords.symm.trans hg)
    obtain rfl := Option.some.inj (tWords.symm.trans ht)
    have hd' : DataW.trod (fun _ => ()) Tryz.prog W 0 (fun _ => true) false fuel 163 cs.toList = some (.agg (([[108, 101, 116], [105, 110], [105, 102], [116, 104, 101, 110], [101, 108, 115, 101], [114, 101, 99]] : List (List UInt8)).map fun x => .lit (.string x)), p) := hd
    have := strs_of_tab Tryz.underlying163 Tryz.underlying9 cStr cWords hd'
    rw [hc]
    congr 1
    apply Array.ext'
    rw [this]
    rfl
  · obtain ⟨g, t, cs, fuel, p, hg, ht, hc, hd⟩ := laidVars_at hv (n := "stillroom/lex.signs") (d := Rows.laid_stillroom_lex_signs) (by unfold laidData; simp)
    obtain rfl := Option.some.inj (gSigns.symm.trans hg)
    obtain rfl := Option.some.inj (tSigns.symm.trans ht)
    have hd' : DataW.trod (fun _ => ()) Tryz.prog W 0 (fun _ => true) false fuel 165 cs.toList = some (.agg (lexSigns.map fun x => .lit (.string x)), p) := hd
    have := strs_of_tab Tryz.underlying165 Tryz.underlying9 cStr cSigns hd'
    rw [hc]
    congr 1
    apply Array.ext'
    rw [this]
  · obtain ⟨g, t, cs, fuel, p, hg, ht, hc, hd⟩ := laidVars_at hv (n := "internal/strconv.uint64pow10") (d := Rows.laid_internal_strconv_uint64pow10) (by unfold laidData; simp)
    obtain rfl := Option.some.inj (gPow.symm.trans hg)
    obtain rfl := Option.some.inj (tPow.symm.trans ht)
    have hd' : DataW.trod (fun _ => ()) Tryz.prog W 0 (fun _ => true) false fuel 263 cs.toList = some (Lib.tabData .u64 Lib.pow10Tab, p) := hd
    unfold Lib.TabIs
    rw [hc, ← Lib.cells_of_tab Tryz.underlying263 Tryz.underlying235 cU64 cPow hd']
  · obtain ⟨g, t, cs, fuel, p, hg, ht, hc, hd⟩ := laidVars_at hv (n := "strconv.ErrSyntax") (d := Rows.laid_strconv_ErrSyntax) (by unfold laidData; simp)
    obtain rfl := Option.some.inj (gSyn.symm.trans hg)
    obtain rfl := Option.some.inj (tSyn.symm.trans ht)
    obtain ⟨_, u, v, hcs, _⟩ := iface_of_trod Tryz.underlying58 hd
    exact ⟨u, v, by rw [hc, Array.eq_one_of_toList hcs]⟩
  · obtain ⟨g, t, cs, fuel, p, hg, ht, hc, hd⟩ := laidVars_at hv (n := "strconv.ErrRange") (d := Rows.laid_strconv_ErrRange) (by unfold laidData; simp)
    obtain rfl := Option.some.inj (gRan.symm.trans hg)
    obtain rfl := Option.some.inj (tRan.symm.trans ht)
    obtain ⟨_, u, v, hcs, _⟩ := iface_of_trod Tryz.underlying58 hd
    exact ⟨u, v, by rw [hc, Array.eq_one_of_toList hcs]⟩
end Go.Proofs.YtejpkjcjoengbaaGreatDoor
set_option linter.unusedVariables false
set_option linter.unusedSimpArgs false
namespace Go.Proofs.YtejpkjcjoengbaaGreatDoor
open Go.ChangeShapes Go.WideShapes Go.ChangeAt Go.RowKit

noncomputable def firstCells : Array Value := match Go.Pinned.utf8First with
  | .agg ds => (ds.map fun d => match d with | .lit (.int k z) => Value.int k z | _ => undef).toArray
  | _ => #[]
noncomputable def laidWorld (os : Os) : World :=
  { World.doorLaid Tryz.prog 89 os with heap := (World.doorLaid Tryz.prog 89 os).heap.modify 4 fun
      | .cells _ t frozen => .cells firstCells t frozen
      | o => o }
set_option maxRecDepth 100000 in
theorem laid_met (os : Os) (args : Array Value) : laidMetH Tryz.prog laidAll ((laidWorld os).forCall (fun _ _ => 0) ⟨#[], args, []⟩).memory :=
  laidMetH_of_parts3 (fuel := 8) (laidMet_of_run' 8 (by kernel_rfl) (by kernel_rfl)) (by kernel_rfl) (by kernel_rfl)
end Go.Proofs.YtejpkjcjoengbaaGreatDoor
