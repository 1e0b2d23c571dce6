/-
  The law VmApart answers true at every builder's world, every name and every node: its row and its tied card. It holds for every input; the package-level variables that the row lists read as the program's text lays them (the card ties them).
-/
import Derived.Test.YtejpkjcjoengbaaGreatDoorCardBase
import Derived.Test.YtejpkjcjoengbaaGreatDoorLawX
import Derived.Test.YtejpkjcjoengbaaGreatDoorOpn
import Derived.ShutString
import Derived.ChangeOld
import Derived.Below
import Derived.Carry
set_option linter.unusedVariables false
namespace Go.Proofs.YtejpkjcjoengbaaGreatDoor
open Go.ChangeShapes Go.WideShapes Go.ChangeAt Go.RowKit
namespace CardApart

theorem laidOut : laidOutB Tryz.prog = true := by kernel_rfl
theorem len3 {cs : List Value} (h : cs.length = 3) : ∃ a b c, cs = [a, b, c] := by
  match cs, h with
  | [a, b, c], _ => exact ⟨a, b, c, rfl⟩

theorem name_weight {H : Type} {P : Program} {t0 t1 : TypeId} {ts : List TypeId} {d0 : DataW H} {l : List UInt8} {r : List (DataW H)} (h : (DataW.weightsEach P (t0 :: t1 :: ts) (d0 :: .lit (.string l) :: r)).all (· ≤ reachBytes) = true) : l.length ≤ 281474976710656 := by
  simp only [DataW.weightsEach, DataW.weights, List.all_append, List.all_cons, List.all_nil, Bool.and_eq_true, decide_eq_true_eq] at h
  have h2 : l.length ≤ reachBytes := h.2.1.1
  unfold reachBytes at h2
  omega

set_option maxRecDepth 100000 in
theorem contract (H : Type) (enc : TypeId × Value → H) (W : World) (base : Nat) (args : Array Value) (ds gs : List (DataW H)) (before : List MemPlace)
    (hval : ∀ (j : Nat) t v, Tryz.f4.params[j]? = some t → args[j]? = some v → Value.okWide Tryz.prog W .any base t v)
    (hW : DataW.Whole enc Tryz.prog Tryz.f4.params.toList Rows.vmApartSpec.vars false W args.toList ds gs before) {ts : List TypeId}
    (hZ : (DataW.weightsEach Tryz.prog (Tryz.f4.params.toList ++ ts) (ds ++ gs)).all (· ≤ reachBytes) = true) (hL : laidMetH Tryz.prog laidAll W) (hS : W.ShapedOpen Tryz.prog) :
    Calls Tryz.prog 4 args W fun e W' => ∃ v, e = .returned v ∧ Rows.vmApartSpec.post enc Tryz.prog Tryz.f4 false true false false W args v W' := by
  have hW' := hW
  obtain ⟨p, q, hA0, hV, rfl, hfz, hnd⟩ := hW
  have hA : DataW.TrodAll enc Tryz.prog W 0 (fun _ => true) true Tryz.f4.params.toList args.toList ds p := hA0
  rw [Tryz.params4] at hA hval hZ
  obtain ⟨v0, vs0, d0, ds0, p0, q0, hargs, rfl, rfl, h0, r0⟩ := trodAll_cons hA
  obtain ⟨v1, vs1, d1, ds1, p1, q1, rfl, rfl, rfl, h1, r1⟩ := trodAll_cons r0
  obtain ⟨v2, vs2, d2, ds2, p2, q2, rfl, rfl, rfl, h2, r2⟩ := trodAll_cons r1
  obtain ⟨rfl, rfl, rfl⟩ := trodAll_nil r2
  obtain rfl : args = #[v0, v1, v2] := by cases args; simp_all
  obtain ⟨rfl, rfl⟩ := trodVars_none hV
  obtain ⟨cs0, rfl, hc0⟩ := okWide_struct Tryz.underlying26 (hval 0 26 v0 rfl rfl)
  obtain ⟨s1, rfl⟩ := okWide_string Tryz.underlying9 (hval 1 9 v1 rfl rfl)
  obtain ⟨cs2, rfl, hc2⟩ := okWide_struct Tryz.underlying32 (hval 2 32 v2 rfl rfl)
  have k0 := h0
  have k1 := h1
  have k2 := h2
  have lt0 : ∀ x ∈ p0, x.block < W.heap.size := by obtain ⟨m, hm⟩ := k0; exact DataW.trod_lt m _ _ _ hm
  have lt1 : ∀ x ∈ p1, x.block < W.heap.size := by obtain ⟨m, hm⟩ := k1; exact DataW.trod_lt m _ _ _ hm
  have lt2 : ∀ x ∈ p2, x.block < W.heap.size := by obtain ⟨m, hm⟩ := k2; exact DataW.trod_lt m _ _ _ hm
  obtain ⟨f0, h0⟩ := h0
  obtain ⟨f1, h1⟩ := h1
  obtain ⟨f2, h2⟩ := h2
  -- the builder's world
  obtain ⟨xs, n, rfl, _, hl, hxl, hf⟩ := DataW.trod_struct Tryz.underlying26 h0
  have hl0 : cs0.toList.length = 3 := hl.trans cWorld
  obtain ⟨ev, av, iv, hcs0⟩ := len3 hl0
  have hcs0' : cs0 = #[ev, av, iv] := by apply Array.ext'; rw [hcs0]
  subst hcs0'
  have hx : xs.length = 3 := hxl
  have g0 := fld hf 0 22 0 1 rfl cPairs (by omega)
  have g1 := fld hf 1 23 1 1 rfl cStrs (by omega)
  have g2 := fld hf 2 24 2 1 rfl cInputs (by omega)
  have g0' : DataW.trod enc Tryz.prog W 0 (fun _ => true) true n 22 [ev] = some xs[0] := g0
  have g1' : DataW.trod enc Tryz.prog W 0 (fun _ => true) true n 23 [av] = some xs[1] := g1
  have g2' : DataW.trod enc Tryz.prog W 0 (fun _ => true) true n 24 [iv] = some xs[2] := g2
  obtain ⟨ev', env, he, hE⟩ := open_pairs g0'
  obtain ⟨av', ars, ha, hA1⟩ := open_names g1'
  obtain ⟨iv', ins, cells, hi, hIn, hIs⟩ := open_ins g2'
  injection he with he
  injection ha with ha
  injection hi with hi
  subst he ha hi
  have hE2 := hE
  have hA2 := hA1
  have hI2 := hIn
  obtain ⟨_, eA, ec, rfl, _⟩ := hE2
  obtain ⟨_, aA, ac, rfl, _⟩ := hA2
  obtain ⟨_, iA, ic, rfl, _⟩ := hI2
  -- the name
  obtain ⟨s1', hs1, hd1, hsz⟩ := DataW.trod_string Tryz.underlying9 h1
  have hs1' : s1 = s1' := by
    have : [Value.string s1] = [Value.string s1'] := hs1
    injection this with this
    injection this
  subst hs1'
  injection hd1 with hd1 hp1
  subst hd1 hp1
  have hnm := name_weight hZ
  -- the other node
  obtain ⟨other, hO⟩ := open_nd _ h2
  have hbs : s1 = bs s1.data.toList := rfl
  clear hA0 hf g0 g1 g2 g0' g1' g2' hl hl0 hcs0
  simp only [List.append_nil] at hW'
  have hlaw := law_apart hE hA1 hIn hIs hO hnm (glob_of hL hS)
  refine Calls.mono hlaw (fun e W' ⟨he, bel⟩ => ?_)
  subst he
  exact ⟨_, rfl, _, _, _, [], _, [], hW', trodAll_mk1 (shut_bool Tryz.underlying4 _), (trodAll_cons_mk (Below.trod laidOut (by kernel_rfl) (of_decide_eq_true (by kernel_rfl)) k0 bel lt0) (trodAll_cons_mk (Below.trod laidOut (by kernel_rfl) (of_decide_eq_true (by kernel_rfl)) k1 bel lt1) (trodAll_cons_mk (Below.trod laidOut (by kernel_rfl) (of_decide_eq_true (by kernel_rfl)) k2 bel lt2) trodAll_mk0))), rfl, bel.frame _, fun h => by cases h⟩

theorem reads (os : Os) {H : Type} (enc : TypeId × Value → H) : ∃ places, DataW.whole enc Tryz.prog ((laidWorld os).forCall (fun _ _ => 0) ⟨#[], #[.agg #[.slice none 0 0, .slice none 0 0, .slice none 0 0], .string ⟨#[]⟩, .agg #[.int .i64 0, .bool false, .slice none 0 0, .slice none 0 0, .slice none 0 0]], []⟩).memory Tryz.f4.params.toList Rows.vmApartSpec.vars false #[Value.agg #[.slice none 0 0, .slice none 0 0, .slice none 0 0], Value.string ⟨#[]⟩, Value.agg #[.int .i64 0, .bool false, .slice none 0 0, .slice none 0 0, .slice none 0 0]].toList 8 = some ([.agg [.nil, .nil, .nil], .lit (.string []), .agg [.lit (.int .i64 0), .lit (.bool false), .nil, .nil, .nil]], [], places) :=
  ⟨[], by kernel_rfl⟩

set_option maxRecDepth 100000 in
theorem lifted (os : Os) (started : os.Started) (H : Type) (enc : TypeId × Value → H) (F : Stop.Interp) :
    ReturnsInHanded {} Tryz.checked os 4 .any ((OpenSpec.ofChange Rows.vmApartSpec).preRow enc Tryz.prog Tryz.f4 Rows.vmApartRow.domain false Rows.vmApartRow.laid) (((OpenSpec.ofChange Rows.vmApartSpec).at F).post enc Tryz.prog Tryz.f4 false true false false) := by
  obtain ⟨places, hx⟩ := reads os enc
  refine returnsInHanded_of_row (C := Tryz.checked) (s := OpenSpec.ofChange Rows.vmApartSpec) own started (by kernel_rfl) Tryz.func4
    (witness_row_atRef (enc := enc) (C := Tryz.checked) false (laidWorld os) #[.agg #[.slice none 0 0, .slice none 0 0, .slice none 0 0], .string ⟨#[]⟩, .agg #[.int .i64 0, .bool false, .slice none 0 0, .slice none 0 0, .slice none 0 0]] rfl (by kernel_rfl) (by kernel_rfl) (by kernel_rfl)
      (OpenSpec.preRow_of_cond 8 hx (by kernel_rfl) (fun k hk => by cases hk) (by kernel_rfl) (laid_met os _))) ?_
  intro W base args ds gs before hval hW _ _ hZ hL hS _
  exact contract H enc W base args ds gs before hval hW hZ hL hS

theorem said : Rows.VmApartSaid :=
  OpenClaim.holds_of_cond 4 Tryz.f4 rfl rfl rfl rfl rfl rfl rfl ⟨rfl, rfl, rfl, rfl, rfl⟩ rfl rfl rfl rfl rfl (by kernel_rfl) Tryz.func4 (by kernel_rfl)
    (of_decide_eq_true (by kernel_rfl)) (by unfold Func.isWrapper; first | (rw [if_pos (by decide +kernel)]; kernel_rfl) | (rw [if_neg (by decide +kernel)]; exact ⟨rfl, rfl⟩))
    (fun os started H enc _ F => by rw [OpenClaim.pre_eq_preRow]; exact lifted os started H enc F)

theorem plain (f : FuncId) (fn : Func) (hf : Tryz.pinned.checked.prog.funcNamed "stillroom/stillroomlaw23.VmApart" = some f) (hfn : Tryz.pinned.checked.prog.funcs[f]? = some fn) :
    true = Tryz.pinned.checked.prog.looks [] ∧ ∀ (j : Nat) t, fn.params[j]? = some t → Tryz.pinned.checked.prog.wantsStandIn t = false := by
  obtain rfl : f = 4 := Option.some.inj ((show Tryz.prog.funcNamed "stillroom/stillroomlaw23.VmApart" = some 4 by kernel_rfl).symm.trans hf) |>.symm
  obtain rfl : fn = Tryz.f4 := (Option.some.inj (Tryz.func4.symm.trans hfn)).symm
  refine ⟨by kernel_rfl, fun j t ht => ?_⟩
  rw [Tryz.params4] at ht
  rcases (show t = 26 ∨ t = 9 ∨ t = 32 by simpa using Array.mem_of_getElem? ht) with rfl | rfl | rfl
  · exact (show Tryz.prog.wantsStandIn 26 = false by kernel_rfl)
  · exact (show Tryz.prog.wantsStandIn 9 = false by kernel_rfl)
  · exact (show Tryz.prog.wantsStandIn 32 = false by kernel_rfl)

/-- The tied card. -/
theorem card : Rows.VmApartCardSaid :=
  Claim7.holds_tied_plain_at .later [] _ _ _ _ said (fun _ h => by cases h) (by kernel_rfl) (fun _ h => by cases h) vmApart_row_tie rfl ⟨rfl, rfl⟩ (by kernel_rfl) rfl plain (by kernel_rfl)
#print axioms card
end CardApart
end Go.Proofs.YtejpkjcjoengbaaGreatDoor
