/-
  vm.Run, by walk.
-/
import Derived.Test.YtejpkjcjoengbaaGreatDoorVmR
import Derived.Test.YtejpkjcjoengbaaGreatDoorVmS
import Derived.Test.YtejpkjcjoengbaaGreatDoorWrong
set_option linter.unusedVariables false
set_option linter.unusedSimpArgs false
namespace Go.Proofs.YtejpkjcjoengbaaGreatDoor
open Go.RowKit Go.WalkArith

def splitLines (p : List UInt8) : List (List UInt8) := (Lib.splitB ⟨#[10]⟩ 0 (Lib.countB (bs p) ⟨#[10]⟩) (bs p)).map (·.data.toList)
structure VmOut where
  node : Nd
  steps : Int
  err : Int
def argsBad (steps bytes : Int) : Prop := steps < 1 ∨ steps > 1048576 ∨ bytes < 1 ∨ bytes > 1048576
instance (steps bytes : Int) : Decidable (argsBad steps bytes) := by unfold argsBad; infer_instance
def endF (n : Int) (r : SRes) : VmOut :=
  match r with
  | .error e => ⟨zeroNd, n, e⟩
  | .ok s => if rightF (s.out.getD emptyDir) = 0 then ⟨s.out.getD emptyDir, n, 0⟩ else ⟨zeroNd, n, rightF (s.out.getD emptyDir)⟩
def vmF (W : Wd) (p : List UInt8) (steps bytes : Int) : Option VmOut :=
  match readF (splitLines p) with
  | none => none
  | some r =>
    if r.err ≠ 0 then some ⟨zeroNd, 0, r.err⟩
    else if argsBad steps bytes then some ⟨zeroNd, 0, 2⟩
    else match runF' W bytes r.lines steps (steps.toNat + 2) 0 0 ⟨[], none, 0, []⟩ with
      | none => none
      | some (n, r) => some (endF n r)

theorem WdIs.mono {B C : Nat} {W : Wd} {ev av iv : Value} {w : World} (h : WdIs B W ev av iv w) (hBC : B ≤ C) : WdIs C W ev av iv w := by
  obtain ⟨⟨h1, A1, c1, e1, g1⟩, ⟨h2, A2, c2, e2, g2⟩, ⟨cs, h3, h4⟩, h5⟩ := h
  refine ⟨⟨h1, A1, c1, e1, fun h0 => ?_⟩, ⟨h2, A2, c2, e2, fun h0 => ?_⟩, ⟨cs, h3.mono (fun k hk => Nat.lt_of_lt_of_le hk hBC), ?_⟩, h5⟩
  · obtain ⟨g, o, hA, hg, hc⟩ := g1 h0
    exact ⟨g, o, hA, by omega, hc⟩
  · obtain ⟨g, o, hA, hg, hc⟩ := g2 h0
    exact ⟨g, o, hA, by omega, hc⟩
  · clear h3 h5
    revert cs
    induction W.inputs with
    | nil => intro cs h; exact h
    | cons x r ih =>
      intro cs h
      obtain ⟨p, n⟩ := x
      obtain ⟨c1, c2, e, hn, hr⟩ := h
      exact ⟨c1, c2, e, hn.mono (fun k hk => Nat.lt_of_lt_of_le hk hBC), ih _ hr⟩
theorem held_of_own {w : World} {L B n : Nat} {e : TypeId} {size : Nat} {v : Value} {xs : List Value} (h : w.ownsRow L e size v n xs) (hB : w.heap.size ≤ B) (hn : n ≤ 1000000000000) : HeldRow B v n xs w := by
  obtain ⟨A, c, rfl⟩ := own_slice h
  refine ⟨hn, A, c, rfl, fun h0 => ?_⟩
  rcases h.2 with ⟨_, h1⟩ | ⟨g, cap, cur, hv, hb, hg, _⟩
  · omega
  · injection hv with hv
    subst hv
    refine ⟨g, 0, rfl, Nat.lt_of_lt_of_le (Array.getElem?_eq_some_iff.1 hg).1 hB, fun j x hx => ?_⟩
    have := h.cells (g := g) rfl j x hx
    rw [add_plain] at this
    rw [Nat.zero_add]
    exact this
theorem zeroNd_is (F : Nat → Prop) (w : World) : NdIs F w zeroNd [.int .i64 0, .bool false, .slice none 0 0, .slice none 0 0, .slice none 0 0] := by
  unfold zeroNd
  simp only [NdIs]
  exact ⟨_, _, _, rfl, SliceIs.nil _ _ _, SliceIs.nil _ _ _, [], SliceIs.nil _ _ _, rfl⟩
theorem emptyDir_is (F : Nat → Prop) (w : World) : NdIs F w emptyDir [.int .i64 2, .bool false, .slice none 0 0, .slice none 0 0, .slice none 0 0] := by
  unfold emptyDir
  simp only [NdIs]
  exact ⟨_, _, _, rfl, SliceIs.nil _ _ _, SliceIs.nil _ _ _, [], SliceIs.nil _ _ _, rfl⟩

/-- The machine at its start. -/
theorem MIs.start (ev av iv : Value) (most : Int) (w : World) : MIs w.heap.size w.heap.size ev av iv most (fun k => k = w.heap.size) ⟨[], none, 0, []⟩ (w.alloc (.cells #[ev, av, iv, .int .i64 most, .slice none 0 0, .pointer none, .int .i64 0, .string ⟨#[]⟩] 56)) := by
  refine ⟨.slice none 0 0, .pointer none, fun _ => False, ⟨Nat.le_refl _, heap_alloc_new w _, ⟨rfl, .inl ⟨rfl, rfl⟩⟩⟩, rfl, fun k hk => hk.elim, fun k => ?_, ⟨by simp, by simp⟩, by simp, by simp⟩
  simp [Value.ownBlock]

def OutPost (o : VmOut) (w : World) (e : Ending) (w' : World) : Prop :=
  ∃ cl : List Value, e = .returned (.tuple #[.agg cl.toArray, .int .i64 o.steps, .int .i64 o.err]) ∧ NdIs (fun k => w.heap.size ≤ k ∧ k < w'.heap.size) w' o.node cl ∧ Below w.heap.size w w'

set_option maxHeartbeats 2000000 in
set_option maxRecDepth 100000 in
theorem vm_RunG {W : Wd} {p : List UInt8} (hp : p.length ≤ 60000) (hsm : ∀ l ∈ splitLines p, l.length ≤ 60000) {ev av iv : Value} {steps bytes : Int} {o : VmOut} (ho : vmF W p steps bytes = some o) {w : World} (hg : Glob w) (hW : WdIs w.heap.size W ev av iv w)
    (hlen : ∀ r, readF (splitLines p) = some r → r.lines.length ≤ 4096 ∧ ∀ x ∈ r.lines, x.text.length ≤ 60000) :
    Calls Tryz.prog 8 #[.string (bs p), .agg #[ev, av, iv], .agg #[.int .i64 steps, .int .i64 bytes]] w (OutPost o w) := by
  obtain ⟨eA, en, ec, hev⟩ : ∃ A n c, ev = .slice A n c := by obtain ⟨_, A, c, h, _⟩ := hW.env; exact ⟨A, _, c, h⟩
  obtain ⟨aA, an, ac, hav⟩ : ∃ A n c, av = .slice A n c := by obtain ⟨_, A, c, h, _⟩ := hW.args; exact ⟨A, _, c, h⟩
  obtain ⟨iA, iN, ic, hiv⟩ : ∃ A n c, iv = .slice A n c := by obtain ⟨_, ⟨_, A, c, h, _⟩, _⟩ := hW.inputs; exact ⟨A, _, c, h⟩
  subst hev hav hiv
  have hbW0 : Below w.heap.size w (((w.alloc (.cells #[.slice eA en ec, .slice aA an ac, .slice iA iN ic] 26)).alloc (.cells #[.int .i64 steps, .int .i64 bytes] 28)).alloc (.cells #[.int .i64 0, .bool false, .slice none 0 0, .slice none 0 0, .slice none 0 0] 32)) := (((Below.refl _ _).alloc (Nat.le_refl _) _).alloc (by simp) _).alloc (by simp; omega) _
  have a0 : (((w.alloc (.cells #[.slice eA en ec, .slice aA an ac, .slice iA iN ic] 26)).alloc (.cells #[.int .i64 steps, .int .i64 bytes] 28)).alloc (.cells #[.int .i64 0, .bool false, .slice none 0 0, .slice none 0 0, .slice none 0 0] 32)).heap[w.heap.size]? = some (.cells #[.slice eA en ec, .slice aA an ac, .slice iA iN ic] 26 (0, 0)) := alloc_heap (alloc_heap (heap_alloc_new w _))
  have a1 : (((w.alloc (.cells #[.slice eA en ec, .slice aA an ac, .slice iA iN ic] 26)).alloc (.cells #[.int .i64 steps, .int .i64 bytes] 28)).alloc (.cells #[.int .i64 0, .bool false, .slice none 0 0, .slice none 0 0, .slice none 0 0] 32)).heap[w.heap.size + 1]? = some (.cells #[.int .i64 steps, .int .i64 bytes] 28 (0, 0)) := alloc_heap (heap_alloc2_new w _ _)
  have a2 : (((w.alloc (.cells #[.slice eA en ec, .slice aA an ac, .slice iA iN ic] 26)).alloc (.cells #[.int .i64 steps, .int .i64 bytes] 28)).alloc (.cells #[.int .i64 0, .bool false, .slice none 0 0, .slice none 0 0, .slice none 0 0] 32)).heap[w.heap.size + 1 + 1]? = some (.cells #[.int .i64 0, .bool false, .slice none 0 0, .slice none 0 0, .slice none 0 0] 32 (0, 0)) := by
    have := heap_alloc_new ((w.alloc (.cells #[.slice eA en ec, .slice aA an ac, .slice iA iN ic] 26)).alloc (.cells #[.int .i64 steps, .int .i64 bytes] 28)) (.cells #[.int .i64 0, .bool false, .slice none 0 0, .slice none 0 0, .slice none 0 0] 32)
    simpa using this
  have hsz0 : (((w.alloc (.cells #[.slice eA en ec, .slice aA an ac, .slice iA iN ic] 26)).alloc (.cells #[.int .i64 steps, .int .i64 bytes] 28)).alloc (.cells #[.int .i64 0, .bool false, .slice none 0 0, .slice none 0 0, .slice none 0 0] 32)).heap.size = w.heap.size + 3 := by simp
  cases hrd : readF (splitLines p) with
  | none => unfold vmF at ho; rw [hrd] at ho; cases ho
  | some r =>
    obtain ⟨hl1, hl2⟩ := hlen r hrd
    have hread := vm_read (bs p) (by rw [bs_size]; exact hp) r hrd hsm (hg.grown hbW0)
    have hof : (if r.err ≠ 0 then some ⟨zeroNd, 0, r.err⟩ else if argsBad steps bytes then some ⟨zeroNd, 0, 2⟩ else match runF' W bytes r.lines steps (steps.toNat + 2) 0 0 ⟨[], none, 0, []⟩ with | none => none | some (n, r) => some (endF n r)) = some o := by
      unfold vmF at ho; rw [hrd] at ho; exact ho
    clear ho hlen
    go_enter Tryz.func8, Tryz.ntmps8
    go_wp2_with (go_at_call 12; refine hread.mono ?_)
    rintro x w1 ⟨lv, rfl, hown, hb1⟩
    have hbw1 := hbW0.trans (hb1.mono (by rw [hsz0]; omega))
    have b0 := (hb1.block w.heap.size (by rw [hsz0]; omega)).trans a0
    have b1 := (hb1.block (w.heap.size + 1) (by rw [hsz0]; omega)).trans a1
    have b2 := (hb1.block (w.heap.size + 1 + 1) (by rw [hsz0]; omega)).trans a2
    have hs1 : w.heap.size + 3 ≤ w1.heap.size := by have := hb1.size; rw [hsz0] at this; exact this
    generalize hre : r.err = re at *
    clear hread a0 a1 a2 hb1 hbW0
    have c0 := Lib.cell_of_heap b2 0
    have c1 := Lib.cell_of_heap b2 1
    have c2 := Lib.cell_of_heap b2 2
    have c3 := Lib.cell_of_heap b2 3
    have c4 := Lib.cell_of_heap b2 4
    have z0 := Lib.frozen_of_heap b2 0
    have z1 := Lib.frozen_of_heap b2 1
    have z2 := Lib.frozen_of_heap b2 2
    have z3 := Lib.frozen_of_heap b2 3
    have z4 := Lib.frozen_of_heap b2 4
    have q0 := Lib.cell_of_heap b1 0
    have q1 := Lib.cell_of_heap b1 1
    simp at c0 c1 c2 c3 c4 q0 q1
    have hown2 := hown
    obtain ⟨lA, lc, rfl⟩ := own_slice hown2
    have HB0 := Lib.hid b0
    have HB1 := Lib.hid b1
    have HB2 := Lib.hid b2
    clear b0 b1 b2 hown2
    by_cases hre0 : re = 0
    · rw [if_neg (by simp [hre0])] at hof
      subst hre0
      by_cases hab : argsBad steps bytes
      · rw [if_pos hab] at hof
        injection hof with hof
        subst hof
        unfold argsBad at hab
        by_cases h1 : steps < 1
        · go_wp2
          refine bodyPost_row_tmp2 (cs := #[.int .i64 0, .bool false, .slice none 0 0, .slice none 0 0, .slice none 0 0]) rfl rfl rfl Tryz.underlying32 rfl (by kernel_rfl) (set_same (set_same (set_same (set_same (set_same HB2.out rfl) rfl) rfl) rfl) rfl) ?_
          exact ⟨_, rfl, zeroNd_is _ _, ((((hbw1.setCell (by show w.heap.size ≤ w.heap.size + 1 + 1; omega) _).setCell (by show w.heap.size ≤ w.heap.size + 1 + 1; omega) _).setCell (by show w.heap.size ≤ w.heap.size + 1 + 1; omega) _).setCell (by show w.heap.size ≤ w.heap.size + 1 + 1; omega) _).setCell (by show w.heap.size ≤ w.heap.size + 1 + 1; omega) _⟩
        by_cases h2 : 1048576 < steps
        · go_wp2
          refine bodyPost_row_tmp2 (cs := #[.int .i64 0, .bool false, .slice none 0 0, .slice none 0 0, .slice none 0 0]) rfl rfl rfl Tryz.underlying32 rfl (by kernel_rfl) (set_same (set_same (set_same (set_same (set_same HB2.out rfl) rfl) rfl) rfl) rfl) ?_
          exact ⟨_, rfl, zeroNd_is _ _, ((((hbw1.setCell (by show w.heap.size ≤ w.heap.size + 1 + 1; omega) _).setCell (by show w.heap.size ≤ w.heap.size + 1 + 1; omega) _).setCell (by show w.heap.size ≤ w.heap.size + 1 + 1; omega) _).setCell (by show w.heap.size ≤ w.heap.size + 1 + 1; omega) _).setCell (by show w.heap.size ≤ w.heap.size + 1 + 1; omega) _⟩
        by_cases h3 : bytes < 1
        · go_wp2
          refine bodyPost_row_tmp2 (cs := #[.int .i64 0, .bool false, .slice none 0 0, .slice none 0 0, .slice none 0 0]) rfl rfl rfl Tryz.underlying32 rfl (by kernel_rfl) (set_same (set_same (set_same (set_same (set_same HB2.out rfl) rfl) rfl) rfl) rfl) ?_
          exact ⟨_, rfl, zeroNd_is _ _, ((((hbw1.setCell (by show w.heap.size ≤ w.heap.size + 1 + 1; omega) _).setCell (by show w.heap.size ≤ w.heap.size + 1 + 1; omega) _).setCell (by show w.heap.size ≤ w.heap.size + 1 + 1; omega) _).setCell (by show w.heap.size ≤ w.heap.size + 1 + 1; omega) _).setCell (by show w.heap.size ≤ w.heap.size + 1 + 1; omega) _⟩
        have h4 : 1048576 < bytes := by omega
        go_wp2
        refine bodyPost_row_tmp2 (cs := #[.int .i64 0, .bool false, .slice none 0 0, .slice none 0 0, .slice none 0 0]) rfl rfl rfl Tryz.underlying32 rfl (by kernel_rfl) (set_same (set_same (set_same (set_same (set_same HB2.out rfl) rfl) rfl) rfl) rfl) ?_
        exact ⟨_, rfl, zeroNd_is _ _, ((((hbw1.setCell (by show w.heap.size ≤ w.heap.size + 1 + 1; omega) _).setCell (by show w.heap.size ≤ w.heap.size + 1 + 1; omega) _).setCell (by show w.heap.size ≤ w.heap.size + 1 + 1; omega) _).setCell (by show w.heap.size ≤ w.heap.size + 1 + 1; omega) _).setCell (by show w.heap.size ≤ w.heap.size + 1 + 1; omega) _⟩
      · rw [if_neg hab] at hof
        unfold argsBad at hab
        have h1 : ¬ steps < 1 := fun h => hab (.inl h)
        have h2 : ¬ 1048576 < steps := fun h => hab (.inr (.inl h))
        have h3 : ¬ bytes < 1 := fun h => hab (.inr (.inr (.inl h)))
        have h4 : ¬ 1048576 < bytes := fun h => hab (.inr (.inr (.inr h)))
        clear hab
        have w0 := Lib.cell_of_heap HB0.out 0
        have w1' := Lib.cell_of_heap HB0.out 1
        have w2' := Lib.cell_of_heap HB0.out 2
        simp at w0 w1' w2'
        cases hrun : runF' W bytes r.lines steps (steps.toNat + 2) 0 0 ⟨[], none, 0, []⟩ with
        | none => rw [hrun] at hof; cases hof
        | some res =>
          obtain ⟨n, rr⟩ := res
          rw [hrun] at hof
          injection hof with hof
          subst hof
          have hbm : Below w1.heap.size w1 (w1.alloc (.cells #[.slice eA en ec, .slice aA an ac, .slice iA iN ic, .int .i64 bytes, .slice none 0 0, .pointer none, .int .i64 0, .string ⟨#[]⟩] 56)) := (Below.refl _ _).alloc (Nat.le_refl _) _
          have hM := MIs.start (.slice eA en ec) (.slice aA an ac) (.slice iA iN ic) bytes w1
          have hgB : Tryz.prog.globals.size ≤ w1.heap.size := by have := (hg.grown hbw1).size; omega
          have hheld := (held_of_own hown (Nat.le_refl _) (by omega)).below hbm
          have hR := vm_run hheld (by omega) (by omega) hM ((hg.grown hbw1).grown hbm) hgB (((hW.below hbw1).mono (by omega)).below hbm) (by omega) hl1 hl2 _ _ hrun rfl
          have hHW := Lib.hid (And.intro hg hW)
          clear hheld hM hg hW
          have q0m := (hbm.cell (p := ⟨w.heap.size + 1, 0, none⟩) (by show w.heap.size + 1 < w1.heap.size; omega)).trans q0
          have HBM := Lib.hid hbm
          clear hbm
          go_wp2_with (go_at_call 13; refine hR.mono ?_)
          first | rintro x w5 rfl hpost | rintro x w5 ⟨rfl, hpost⟩
          obtain ⟨F5, hS5, hM5⟩ := hpost
          have hbm := HBM.out
          have hs1m : (w1.alloc (.cells #[.slice eA en ec, .slice aA an ac, .slice iA iN ic, .int .i64 bytes, .slice none 0 0, .pointer none, .int .i64 0, .string ⟨#[]⟩] 56)).heap.size = w1.heap.size + 1 := by simp
          have hb5 := hS5.below (B := w1.heap.size) (fun k hk => by omega) (by omega)
          have hb15 : Below w1.heap.size w1 w5 := hbm.trans hb5
          have hbw5 : Below w.heap.size w w5 := hbw1.trans (hb15.mono (by omega))
          have hs5 : w1.heap.size + 1 ≤ w5.heap.size := by have := hb5.size; omega
          have hB25 := (hb15.block (w.heap.size + 1 + 1) (by omega)).trans HB2.out
          obtain ⟨hg, hW⟩ := hHW.out
          have hb5f : Below w5.heap.size w5 (w5.alloc (.cells #[.int .i64 0] 62)) := (Below.refl _ _).alloc (Nat.le_refl _) _
          have hg5f := (hg.grown hbw5).grown hb5f
          have hbwf := hbw5.trans (hb5f.mono hbw5.size)
          have hNf := heap_alloc_new w5 (.cells #[.int .i64 0] 62)
          have hB2f := (hb5f.block (w.heap.size + 1 + 1) (by omega)).trans hB25
          have hsf : (w5.alloc (.cells #[.int .i64 0] 62)).heap.size = w5.heap.size + 1 := by simp
          clear hb5 hbm hHW hg hW hR hs1m hB25
          cases rr with
          | error m =>
            have hrv : resS (.error m : SRes) = .iface 62 (.agg #[.int .i64 m]) := rfl
            rw [hrv]
            have hAs := as_hit m w5.heap.size (.int .i64 0) _ hg5f (by rw [Lib.cell_of_heap hNf 0]; rfl) (Lib.frozen_of_heap hNf 0)
            go_wp2_with (go_at_call 14; refine hAs.mono ?_)
            first | rintro x w7 rfl hq7 | rintro x w7 ⟨rfl, hq7⟩
            obtain ⟨w6, hb6, rfl⟩ := hq7
            have hN6 := (hb6.block w5.heap.size (by omega)).trans hNf
            have hB26 := (hb6.block (w.heap.size + 1 + 1) (by omega)).trans hB2f
            have hN7 : (w6.setCell ⟨w5.heap.size, 0, none⟩ (.int .i64 m)).heap[w5.heap.size]? = some (.cells #[.int .i64 m] 62 (0, 0)) := set_same hN6 rfl
            have hB27 : (w6.setCell ⟨w5.heap.size, 0, none⟩ (.int .i64 m)).heap[w.heap.size + 1 + 1]? = _ := set_other hB26 (by show w.heap.size + 1 + 1 ≠ w5.heap.size; omega)
            have hbw7 : Below w.heap.size w (w6.setCell ⟨w5.heap.size, 0, none⟩ (.int .i64 m)) := (hbwf.trans (hb6.mono hbwf.size)).setCell (by show w.heap.size ≤ w5.heap.size; omega) _
            generalize w6.setCell ⟨w5.heap.size, 0, none⟩ (.int .i64 m) = w7 at *
            have f0 := Lib.cell_of_heap hN7 0
            have z0 := Lib.frozen_of_heap hB27 0
            have z1 := Lib.frozen_of_heap hB27 1
            have z2 := Lib.frozen_of_heap hB27 2
            have z3 := Lib.frozen_of_heap hB27 3
            have z4 := Lib.frozen_of_heap hB27 4
            have c0 := Lib.cell_of_heap hB27 0
            have c1 := Lib.cell_of_heap hB27 1
            have c2 := Lib.cell_of_heap hB27 2
            have c3 := Lib.cell_of_heap hB27 3
            have c4 := Lib.cell_of_heap hB27 4
            simp at f0 c0 c1 c2 c3 c4
            have HB27 := Lib.hid (And.intro hB27 hbw7)
            clear hN6 hB26 hN7 hB27 hNf hB2f hb6 hAs hbw7
            go_wp2
            go_region
            all_goals go_wp2
            all_goals refine bodyPost_row_tmp2 (cs := #[.int .i64 0, .bool false, .slice none 0 0, .slice none 0 0, .slice none 0 0]) rfl rfl rfl Tryz.underlying32 rfl (by kernel_rfl) (set_same (set_same (set_same (set_same (set_same HB27.out.1 rfl) rfl) rfl) rfl) rfl) ?_
            all_goals exact ⟨_, rfl, zeroNd_is _ _, (((((HB27.out.2.setCell (by show w.heap.size ≤ w.heap.size + 1 + 1; omega) _).setCell (by show w.heap.size ≤ w.heap.size + 1 + 1; omega) _).setCell (by show w.heap.size ≤ w.heap.size + 1 + 1; omega) _).setCell (by show w.heap.size ≤ w.heap.size + 1 + 1; omega) _).setCell (by show w.heap.size ≤ w.heap.size + 1 + 1; omega) _).drew⟩
          | ok s2 =>
            have hrv : resS (.ok s2 : SRes) = .nilIface := rfl
            rw [hrv]
            have hokn : NdOk (s2.out.getD emptyDir) := by
              have hgood := (hM5 s2 rfl).1.good.2
              have hzz := (hM5 s2 rfl).2
              cases hso : s2.out with
              | none => simp [emptyDir, NdOk, NdsOk, entriesF]
              | some m =>
                rw [hso] at hzz
                exact (hgood m hso).ok (by simp only [outSz] at hzz; omega)
            have hMf := (hM5 s2 rfl).1.kept hb5f
            obtain ⟨sv, ov, G, hmac, hO, hG, _, _, _, _⟩ := hMf
            have hcell5 := hmac.cell 5
            simp at hcell5
            have hfz5 := hmac.frozen 5
            have hblk := hmac.blk
            clear hM5 hmac
            cases hout : s2.out with
            | none =>
              rw [hout] at hO hokn
              have hov : ov = .pointer none := hO
              subst hov
              obtain ⟨nd, hndv⟩ : ∃ nd, nd = emptyDir := ⟨_, rfl⟩
              have hokn : NdOk nd := by rw [hndv]; exact hokn
              have hNn := heap_alloc_new (w5.alloc (.cells #[.int .i64 0] 62)) (.cells #[.int .i64 2, .bool false, .slice none 0 0, .slice none 0 0, .slice none 0 0] 32)
              rw [hsf] at hNn
              have hNb : (((w5.alloc (.cells #[.int .i64 0] 62)).alloc (.cells #[.int .i64 2, .bool false, .slice none 0 0, .slice none 0 0, .slice none 0 0] 32)).setCell ⟨w1.heap.size, 5, none⟩ (.pointer (some ⟨w5.heap.size + 1, 0, none⟩))).heap[w5.heap.size + 1]? = some (.cells #[.int .i64 2, .bool false, .slice none 0 0, .slice none 0 0, .slice none 0 0] 32 (0, 0)) := set_other hNn (by show w5.heap.size + 1 ≠ w1.heap.size; omega)
              have hMb := set_same (i := 5) (v := .pointer (some ⟨w5.heap.size + 1, 0, none⟩)) (alloc_heap (o' := .cells #[.int .i64 2, .bool false, .slice none 0 0, .slice none 0 0, .slice none 0 0] 32) hblk) rfl
              have hq5 := Lib.cell_of_heap hMb 5
              have hMn := alloc_heap (o' := .cells #[.int .i64 2, .bool false, .slice none 0 0, .slice none 0 0, .slice none 0 0] 32) hblk
              have hc5n := Lib.cell_of_heap hMn 5
              have hf5n := Lib.frozen_of_heap hMn 5
              have hB2q : (((w5.alloc (.cells #[.int .i64 0] 62)).alloc (.cells #[.int .i64 2, .bool false, .slice none 0 0, .slice none 0 0, .slice none 0 0] 32)).setCell ⟨w1.heap.size, 5, none⟩ (.pointer (some ⟨w5.heap.size + 1, 0, none⟩))).heap[w.heap.size + 1 + 1]? = _ := set_other (alloc_heap hB2f) (by show w.heap.size + 1 + 1 ≠ w1.heap.size; omega)
              have hbq : Below w.heap.size w (((w5.alloc (.cells #[.int .i64 0] 62)).alloc (.cells #[.int .i64 2, .bool false, .slice none 0 0, .slice none 0 0, .slice none 0 0] 32)).setCell ⟨w1.heap.size, 5, none⟩ (.pointer (some ⟨w5.heap.size + 1, 0, none⟩))) := (hbwf.alloc (by omega) _).setCell (by show w.heap.size ≤ w1.heap.size; omega) _
              have n0 := Lib.cell_of_heap hNb 0
              have n1 := Lib.cell_of_heap hNb 1
              have n2 := Lib.cell_of_heap hNb 2
              have n3 := Lib.cell_of_heap hNb 3
              have n4 := Lib.cell_of_heap hNb 4
              simp only [List.getElem?_toArray, List.getElem?_cons_zero, List.getElem?_cons_succ] at n0 n1 n2 n3 n4 hq5 hc5n
              have hNl : w5.heap.size + 1 < (((w5.alloc (.cells #[.int .i64 0] 62)).alloc (.cells #[.int .i64 2, .bool false, .slice none 0 0, .slice none 0 0, .slice none 0 0] 32)).setCell ⟨w1.heap.size, 5, none⟩ (.pointer (some ⟨w5.heap.size + 1, 0, none⟩))).heap.size := by simp [World.setCell]
              have hbl : w1.heap.size < (((w5.alloc (.cells #[.int .i64 0] 62)).alloc (.cells #[.int .i64 2, .bool false, .slice none 0 0, .slice none 0 0, .slice none 0 0] 32)).setCell ⟨w1.heap.size, 5, none⟩ (.pointer (some ⟨w5.heap.size + 1, 0, none⟩))).heap.size := by simp [World.setCell]; omega
              have hNd : NdIs (fun _ => False) (((w5.alloc (.cells #[.int .i64 0] 62)).alloc (.cells #[.int .i64 2, .bool false, .slice none 0 0, .slice none 0 0, .slice none 0 0] 32)).setCell ⟨w1.heap.size, 5, none⟩ (.pointer (some ⟨w5.heap.size + 1, 0, none⟩))) nd [.int .i64 2, .bool false, .slice none 0 0, .slice none 0 0, .slice none 0 0] := by rw [hndv]; exact emptyDir_is _ _
              have hGq : ∀ k, (fun _ : Nat => False) k → w1.heap.size ≤ k ∧ k < (((w5.alloc (.cells #[.int .i64 0] 62)).alloc (.cells #[.int .i64 2, .bool false, .slice none 0 0, .slice none 0 0, .slice none 0 0] 32)).setCell ⟨w1.heap.size, 5, none⟩ (.pointer (some ⟨w5.heap.size + 1, 0, none⟩))).heap.size := fun k hk => hk.elim
              have hAsn := as_nil (.iface 64 (.pointer (some ⟨w5.heap.size, 0, none⟩))) (w5.alloc (.cells #[.int .i64 0] 62))
              have hndv : nd = s2.out.getD emptyDir := by rw [hout]; exact hndv
              clear hMb hMn hNb hNn hNf hB2f
              go_wp2_with (go_at_call 14; refine hAsn.mono ?_)
              first | rintro x w7 rfl hq7 | rintro x w7 ⟨rfl, hq7⟩
              subst hq7
              have hRt := tree_Right nd hNd hokn (fun k hk => (hGq k hk).2)
              have hfin0 : endF n (.ok s2) = if rightF nd = 0 then ⟨nd, n, 0⟩ else ⟨zeroNd, n, rightF nd⟩ := by subst hndv; rfl
              generalize rightF nd = rf at *
              have HF0 := Lib.hid hfin0
              have HQ := Lib.hid (And.intro hNd (And.intro hB2q hbq))
              clear hNd hB2q hbq hfin0
              go_wp2_with (go_at_call 15; refine hRt.mono ?_)
              first | rintro y w8 rfl hb8 | rintro y w8 ⟨rfl, hb8⟩
              replace hb8 : Below (((w5.alloc (.cells #[.int .i64 0] 62)).alloc (.cells #[.int .i64 2, .bool false, .slice none 0 0, .slice none 0 0, .slice none 0 0] 32)).setCell ⟨w1.heap.size, 5, none⟩ (.pointer (some ⟨w5.heap.size + 1, 0, none⟩))).heap.size (((w5.alloc (.cells #[.int .i64 0] 62)).alloc (.cells #[.int .i64 2, .bool false, .slice none 0 0, .slice none 0 0, .slice none 0 0] 32)).setCell ⟨w1.heap.size, 5, none⟩ (.pointer (some ⟨w5.heap.size + 1, 0, none⟩))) w8 := by first | exact hb8 | simpa using hb8
              obtain ⟨hNd, hB2q, hbq⟩ := HQ.out
              have hA2 : w.heap.size + 1 + 1 < (((w5.alloc (.cells #[.int .i64 0] 62)).alloc (.cells #[.int .i64 2, .bool false, .slice none 0 0, .slice none 0 0, .slice none 0 0] 32)).setCell ⟨w1.heap.size, 5, none⟩ (.pointer (some ⟨w5.heap.size + 1, 0, none⟩))).heap.size := (Array.getElem?_eq_some_iff.1 hB2q).1
              have hB28 := (hb8.block _ hA2).trans hB2q
              have hNd8 := hNd.kept (fun k hk => hb8.block k (hGq k hk).2)
              have hbw8 := hbq.trans (hb8.mono hbq.size)
              have z0 := Lib.frozen_of_heap hB28 0
              have z1 := Lib.frozen_of_heap hB28 1
              have z2 := Lib.frozen_of_heap hB28 2
              have z3 := Lib.frozen_of_heap hB28 3
              have z4 := Lib.frozen_of_heap hB28 4
              have c0 := Lib.cell_of_heap hB28 0
              have c1 := Lib.cell_of_heap hB28 1
              have c2 := Lib.cell_of_heap hB28 2
              have c3 := Lib.cell_of_heap hB28 3
              have c4 := Lib.cell_of_heap hB28 4
              simp at c0 c1 c2 c3 c4
              have p5 := (hb8.cell (p := ⟨w1.heap.size, 5, none⟩) hbl).trans hq5
              have m0 := (hb8.cell (p := ⟨w5.heap.size + 1, 0, none⟩) hNl).trans n0
              have m1 := (hb8.cell (p := ⟨w5.heap.size + 1, 1, none⟩) hNl).trans n1
              have m2 := (hb8.cell (p := ⟨w5.heap.size + 1, 2, none⟩) hNl).trans n2
              have m3 := (hb8.cell (p := ⟨w5.heap.size + 1, 3, none⟩) hNl).trans n3
              have m4 := (hb8.cell (p := ⟨w5.heap.size + 1, 4, none⟩) hNl).trans n4
              have HB28 := Lib.hid hB28
              clear hB28 hB2q hNd hq5 n0 n1 n2 n3 n4 hbq
              by_cases hrf : rf = 0
              · subst hrf
                go_wp2
                refine bodyPost_row_tmp2 (cs := #[.int .i64 2, .bool false, .slice none 0 0, .slice none 0 0, .slice none 0 0]) rfl rfl rfl Tryz.underlying32 rfl (by kernel_rfl) (set_same (set_same (set_same (set_same (set_same HB28.out rfl) rfl) rfl) rfl) rfl) ?_
                rw [HF0.out, if_pos (by trivial)]
                refine ⟨_, rfl, ?_, ((((hbw8.setCell (by show w.heap.size ≤ w.heap.size + 1 + 1; omega) _).setCell (by show w.heap.size ≤ w.heap.size + 1 + 1; omega) _).setCell (by show w.heap.size ≤ w.heap.size + 1 + 1; omega) _).setCell (by show w.heap.size ≤ w.heap.size + 1 + 1; omega) _).setCell (by show w.heap.size ≤ w.heap.size + 1 + 1; omega) _⟩
                refine (hNd8.kept (fun k hk => ?_)).mono (fun k hk => ⟨by have := (hGq k hk).1; omega, by have := (hGq k hk).2; have := hb8.size; simp [World.setCell]; omega⟩)
                have hkA : k ≠ w.heap.size + 1 + 1 := by have := (hGq k hk).1; omega
                rw [Below.heap_setCell _ _ _ _ hkA, Below.heap_setCell _ _ _ _ hkA, Below.heap_setCell _ _ _ _ hkA, Below.heap_setCell _ _ _ _ hkA, Below.heap_setCell _ _ _ _ hkA]
              · have hrfq : (rf == 0) = false := by simp [hrf]
                go_wp2
                refine bodyPost_row_tmp2 (cs := #[.int .i64 0, .bool false, .slice none 0 0, .slice none 0 0, .slice none 0 0]) rfl rfl rfl Tryz.underlying32 rfl (by kernel_rfl) (set_same (set_same (set_same (set_same (set_same HB28.out rfl) rfl) rfl) rfl) rfl) ?_
                rw [HF0.out, if_neg hrf]
                exact ⟨_, rfl, zeroNd_is _ _, ((((hbw8.setCell (by show w.heap.size ≤ w.heap.size + 1 + 1; omega) _).setCell (by show w.heap.size ≤ w.heap.size + 1 + 1; omega) _).setCell (by show w.heap.size ≤ w.heap.size + 1 + 1; omega) _).setCell (by show w.heap.size ≤ w.heap.size + 1 + 1; omega) _).setCell (by show w.heap.size ≤ w.heap.size + 1 + 1; omega) _⟩
            | some nd =>
              rw [hout] at hO hokn
              obtain ⟨N, cs, F0, rfl, hGN, hNb, hNdO, _, hFG, _⟩ := hO
              have hNd := hNdO.is.mono hFG
              clear hNdO
              have hndv : nd = s2.out.getD emptyDir := by rw [hout]; rfl
              have hokn : NdOk nd := hokn
              obtain ⟨dA, dc, nA, nc, sA, sc, hcs, _⟩ := hNd.cells
              have hcs2 : cs = #[.int .i64 nd.kind, .bool nd.exec, .slice dA nd.data.length dc, .slice nA nd.names.length nc, .slice sA nd.nodes.length sc] := by
                rw [← hcs]
              subst hcs2
              have n0 := Lib.cell_of_heap hNb 0
              have n1 := Lib.cell_of_heap hNb 1
              have n2 := Lib.cell_of_heap hNb 2
              have n3 := Lib.cell_of_heap hNb 3
              have n4 := Lib.cell_of_heap hNb 4
              simp at n0 n1 n2 n3 n4
              have hNl : N < (w5.alloc (.cells #[.int .i64 0] 62)).heap.size := (Array.getElem?_eq_some_iff.1 hNb).1
              have hGq : ∀ k, G k → w1.heap.size ≤ k ∧ k < (w5.alloc (.cells #[.int .i64 0] 62)).heap.size := fun k hk => ⟨(hG k hk).1, (hG k hk).2.1⟩
              have hbl : w1.heap.size < (w5.alloc (.cells #[.int .i64 0] 62)).heap.size := by omega
              generalize nd.kind = kk at *
              generalize nd.exec = ee at *
              generalize nd.data.length = dn at *
              generalize nd.names.length = nn at *
              generalize nd.nodes.length = sn at *
              have hAsn := as_nil (.iface 64 (.pointer (some ⟨w5.heap.size, 0, none⟩))) (w5.alloc (.cells #[.int .i64 0] 62))
              go_wp2_with (go_at_call 14; refine hAsn.mono ?_)
              first | rintro x w7 rfl hq7 | rintro x w7 ⟨rfl, hq7⟩
              subst hq7
              generalize hwq : w5.alloc (.cells #[.int .i64 0] 62) = wq at *
              have hq5 := hcell5
              have hB2q := hB2f
              have hbq := hbwf
              clear hcell5 hB2f hbwf hNb hblk hNf
              have hRt := tree_Right nd hNd hokn (fun k hk => (hGq k hk).2)
              have hfin0 : endF n (.ok s2) = if rightF nd = 0 then ⟨nd, n, 0⟩ else ⟨zeroNd, n, rightF nd⟩ := by subst hndv; rfl
              generalize rightF nd = rf at *
              have HF0 := Lib.hid hfin0
              have HQ := Lib.hid (And.intro hNd (And.intro hB2q hbq))
              clear hNd hB2q hbq hfin0
              go_wp2_with (go_at_call 15; refine hRt.mono ?_)
              first | rintro y w8 rfl hb8 | rintro y w8 ⟨rfl, hb8⟩
              replace hb8 : Below wq.heap.size wq w8 := by first | exact hb8 | simpa using hb8
              obtain ⟨hNd, hB2q, hbq⟩ := HQ.out
              have hA2 : w.heap.size + 1 + 1 < wq.heap.size := (Array.getElem?_eq_some_iff.1 hB2q).1
              have hB28 := (hb8.block _ hA2).trans hB2q
              have hNd8 := hNd.kept (fun k hk => hb8.block k (hGq k hk).2)
              have hbw8 := hbq.trans (hb8.mono hbq.size)
              have z0 := Lib.frozen_of_heap hB28 0
              have z1 := Lib.frozen_of_heap hB28 1
              have z2 := Lib.frozen_of_heap hB28 2
              have z3 := Lib.frozen_of_heap hB28 3
              have z4 := Lib.frozen_of_heap hB28 4
              have c0 := Lib.cell_of_heap hB28 0
              have c1 := Lib.cell_of_heap hB28 1
              have c2 := Lib.cell_of_heap hB28 2
              have c3 := Lib.cell_of_heap hB28 3
              have c4 := Lib.cell_of_heap hB28 4
              simp at c0 c1 c2 c3 c4
              have p5 := (hb8.cell (p := ⟨w1.heap.size, 5, none⟩) hbl).trans hq5
              have m0 := (hb8.cell (p := ⟨N, 0, none⟩) hNl).trans n0
              have m1 := (hb8.cell (p := ⟨N, 1, none⟩) hNl).trans n1
              have m2 := (hb8.cell (p := ⟨N, 2, none⟩) hNl).trans n2
              have m3 := (hb8.cell (p := ⟨N, 3, none⟩) hNl).trans n3
              have m4 := (hb8.cell (p := ⟨N, 4, none⟩) hNl).trans n4
              have HB28 := Lib.hid hB28
              clear hB28 hB2q hNd hq5 n0 n1 n2 n3 n4 hbq
              by_cases hrf : rf = 0
              · subst hrf
                go_wp2
                refine bodyPost_row_tmp2 (cs := #[.int .i64 kk, .bool ee, .slice dA dn dc, .slice nA nn nc, .slice sA sn sc]) rfl rfl rfl Tryz.underlying32 rfl (by kernel_rfl) (set_same (set_same (set_same (set_same (set_same HB28.out rfl) rfl) rfl) rfl) rfl) ?_
                rw [HF0.out, if_pos (by trivial)]
                refine ⟨_, rfl, ?_, ((((hbw8.setCell (by show w.heap.size ≤ w.heap.size + 1 + 1; omega) _).setCell (by show w.heap.size ≤ w.heap.size + 1 + 1; omega) _).setCell (by show w.heap.size ≤ w.heap.size + 1 + 1; omega) _).setCell (by show w.heap.size ≤ w.heap.size + 1 + 1; omega) _).setCell (by show w.heap.size ≤ w.heap.size + 1 + 1; omega) _⟩
                refine (hNd8.kept (fun k hk => ?_)).mono (fun k hk => ⟨by have := (hGq k hk).1; omega, by have := (hGq k hk).2; have := hb8.size; simp [World.setCell]; omega⟩)
                have hkA : k ≠ w.heap.size + 1 + 1 := by have := (hGq k hk).1; omega
                rw [Below.heap_setCell _ _ _ _ hkA, Below.heap_setCell _ _ _ _ hkA, Below.heap_setCell _ _ _ _ hkA, Below.heap_setCell _ _ _ _ hkA, Below.heap_setCell _ _ _ _ hkA]
              · have hrfq : (rf == 0) = false := by simp [hrf]
                go_wp2
                refine bodyPost_row_tmp2 (cs := #[.int .i64 0, .bool false, .slice none 0 0, .slice none 0 0, .slice none 0 0]) rfl rfl rfl Tryz.underlying32 rfl (by kernel_rfl) (set_same (set_same (set_same (set_same (set_same HB28.out rfl) rfl) rfl) rfl) rfl) ?_
                rw [HF0.out, if_neg hrf]
                exact ⟨_, rfl, zeroNd_is _ _, ((((hbw8.setCell (by show w.heap.size ≤ w.heap.size + 1 + 1; omega) _).setCell (by show w.heap.size ≤ w.heap.size + 1 + 1; omega) _).setCell (by show w.heap.size ≤ w.heap.size + 1 + 1; omega) _).setCell (by show w.heap.size ≤ w.heap.size + 1 + 1; omega) _).setCell (by show w.heap.size ≤ w.heap.size + 1 + 1; omega) _⟩
    · rw [if_pos hre0] at hof
      injection hof with hof
      subst hof
      have hq : (re == 0) = false := by simp [hre0]
      go_wp2
      refine bodyPost_row_tmp2 (cs := #[.int .i64 0, .bool false, .slice none 0 0, .slice none 0 0, .slice none 0 0]) rfl rfl rfl Tryz.underlying32 rfl (by kernel_rfl) (set_same (set_same (set_same (set_same (set_same HB2.out rfl) rfl) rfl) rfl) rfl) ?_
      exact ⟨_, rfl, zeroNd_is _ _, ((((hbw1.setCell (by show w.heap.size ≤ w.heap.size + 1 + 1; omega) _).setCell (by show w.heap.size ≤ w.heap.size + 1 + 1; omega) _).setCell (by show w.heap.size ≤ w.heap.size + 1 + 1; omega) _).setCell (by show w.heap.size ≤ w.heap.size + 1 + 1; omega) _).setCell (by show w.heap.size ≤ w.heap.size + 1 + 1; omega) _⟩
theorem vm_Run {W : Wd} {p : List UInt8} (hp : p.length ≤ 60000) (hsm : ∀ l ∈ splitLines p, l.length ≤ 60000) {ev av iv : Value} {steps bytes : Int} {o : VmOut} (ho : vmF W p steps bytes = some o) {w : World} (hg : Glob w) (hW : WdIs w.heap.size W ev av iv w)
    (hlen : ∀ r, readF (splitLines p) = some r → r.lines.length ≤ 4096 ∧ ∀ x ∈ r.lines, x.text.length ≤ 60000)
    (hok : ∀ r n s, readF (splitLines p) = some r → runF' W bytes r.lines steps (steps.toNat + 2) 0 0 ⟨[], none, 0, []⟩ = some (n, .ok s) → NdOk (s.out.getD emptyDir)) :
    Calls Tryz.prog 8 #[.string (bs p), .agg #[ev, av, iv], .agg #[.int .i64 steps, .int .i64 bytes]] w (OutPost o w) := vm_RunG hp hsm ho hg hW hlen
end Go.Proofs.YtejpkjcjoengbaaGreatDoor
