/-
  vm.walk: a node beneath another one, by walk.
-/
import Derived.Test.YtejpkjcjoengbaaGreatDoorRight
import Derived.Test.YtejpkjcjoengbaaGreatDoorInF
import Derived.Test.YtejpkjcjoengbaaGreatDoorConv
set_option linter.unusedVariables false
set_option linter.unusedSimpArgs false
namespace Go.Proofs.YtejpkjcjoengbaaGreatDoor
open Go.RowKit

theorem index_call {F : Nat → Prop} {w : World} {A : Option Addr} {n c : Nat} {na : List (List UInt8)} (h : SliceIs F 1 (.slice A n c) na.length (strCells na) w) (s : List UInt8) :
    Calls Tryz.prog 131 #[.slice A na.length c, .string (bs s)] w fun e w' => e = .returned (.int .i64 (idxF na s)) ∧ w' = w := by
  obtain ⟨hm, A', c', hv, hA⟩ := h
  injection hv with h1 h2 h3
  subst h1 h3
  unfold maxLen at hm
  rcases Nat.eq_zero_or_pos na.length with h0 | h0
  · have : na = [] := List.eq_nil_of_length_eq_zero h0
    subst this
    exact Tryz.slices_Index_string_empty A c (bs s) w
  · obtain ⟨g, o, rfl, _, hl, hc⟩ := hA h0
    refine (Tryz.slices_Index_string g o na.length c (na.map bs) (bs s) w (by simp) (by omega) (fun j hj => ?_)).mono ?_
    · rw [List.length_map] at hj
      rw [hc j _ (strCells_at na j hj)]
      simp [hj]
    · rintro e w' ⟨rfl, rfl⟩
      rw [List.take_of_length_le (by simp)]
      exact ⟨rfl, rfl⟩
theorem idxFromS_range (x : ByteArray) : ∀ (l : List ByteArray) (i : Nat), -1 ≤ Lib.idxFromS l x i ∧ Lib.idxFromS l x i < i + l.length + 1
  | [], i => by simp [Lib.idxFromS]; omega
  | z :: l, i => by
    have := idxFromS_range x l (i + 1)
    unfold Lib.idxFromS
    split
    · simp; omega
    · simp at this ⊢; omega
theorem idxOfS_range (l : List ByteArray) (x : ByteArray) : -1 ≤ Lib.idxOfS l x ∧ Lib.idxOfS l x < l.length + 1 := by
  have := idxFromS_range x l 0
  unfold Lib.idxOfS
  omega

def zero5 : List Value := [.int .i64 0, .bool false, .slice none 0 0, .slice none 0 0, .slice none 0 0]
def WalkPost (F : Nat → Prop) (r : Option Nd) (w : World) (e : Ending) (w' : World) : Prop :=
  ∃ cl : List Value, e = .returned (.tuple #[.agg cl.toArray, .bool r.isSome]) ∧ Below w.heap.size w w' ∧ (match r with | some m => NdIs F w m cl | none => cl = zero5)

def WalkInv (F : Nat → Prop) (n : Nd) (names : List (List UInt8)) (w : World) (j : Nat) (wr : World) : Prop :=
  ∃ nk cl, walkF n names = walkF nk (names.drop j) ∧ NdIs F w nk cl ∧ wr.heap[w.heap.size]? = some (.cells cl.toArray 32 (0, 0)) ∧ wr.heap[w.heap.size + 1]? = some (.cells zero5.toArray 32 (0, 0)) ∧ Below w.heap.size w wr

set_option maxHeartbeats 2000000 in
set_option maxRecDepth 100000 in
theorem vm_walk {F : Nat → Prop} {w : World} {n : Nd} {cl : List Value} (hN : NdIs F w n cl) (hF : ∀ k, F k → k < w.heap.size) (names : List (List UInt8)) (g c : Nat) (hg : g < w.heap.size) (hl : names.length ≤ 1000000000000) (hc : ∀ (j : Nat) x, names[j]? = some x → w.cell? ⟨g, j, none⟩ = some (.string (bs x))) :
    Calls Tryz.prog 117 #[.agg cl.toArray, .slice (some ⟨g, 0, none⟩) names.length c] w (WalkPost F (walkF n names) w) := by
  have hN0 := hN
  obtain ⟨dA0, dc0, nA0, nc0, sA0, sc0, rfl, _⟩ := hN0.cells
  have HC := Lib.hid hc
  clear hc hN0
  go_enter Tryz.func117, Tryz.ntmps117
  go_wp2
  go_loopw [11] (fun i wr => ∃ j : Nat, j ≤ names.length ∧ i = .int .i64 j ∧ WalkInv F n names w j wr) (fun i wr => names.length - (intOf i).toNat)
  case atStart => exact ⟨0, Nat.zero_le _, rfl, n, _, rfl, hN, alloc_heap (heap_alloc_new w _), heap_alloc2_new w _ _, ((Below.refl _ _).alloc (Nat.le_refl _) _).alloc (by simp) _⟩
  case round =>
    obtain ⟨j, hj, rfl, nk, cl, hwk, hNk, hX, hY, hb⟩ := hrel
    clear hN
    obtain ⟨dA, dc, nA, nc, sA, sc, rfl, _, hNm, cs, hS, hNs⟩ := hNk.cells
    have x0 := Lib.cell_of_heap hX 0
    have x1 := Lib.cell_of_heap hX 1
    have x2 := Lib.cell_of_heap hX 2
    have x3 := Lib.cell_of_heap hX 3
    have x4 := Lib.cell_of_heap hX 4
    have xz0 := Lib.frozen_of_heap hX 0
    have xz1 := Lib.frozen_of_heap hX 1
    have xz2 := Lib.frozen_of_heap hX 2
    have xz3 := Lib.frozen_of_heap hX 3
    have xz4 := Lib.frozen_of_heap hX 4
    have y0 := Lib.cell_of_heap hY 0
    have y1 := Lib.cell_of_heap hY 1
    have y2 := Lib.cell_of_heap hY 2
    have y3 := Lib.cell_of_heap hY 3
    have y4 := Lib.cell_of_heap hY 4
    have yz0 := Lib.frozen_of_heap hY 0
    have yz1 := Lib.frozen_of_heap hY 1
    have yz2 := Lib.frozen_of_heap hY 2
    have yz3 := Lib.frozen_of_heap hY 3
    have yz4 := Lib.frozen_of_heap hY 4
    simp only [zero5, List.getElem?_toArray, List.getElem?_cons_zero, List.getElem?_cons_succ] at x0 x1 x2 x3 x4 y0 y1 y2 y3 y4
    have HX := Lib.hid hX
    have HY := Lib.hid hY
    clear hX hY
    have hbW : ∀ v0 v1 v2 v3 v4, Below w.heap.size w (((((wr.setCell ⟨w.heap.size + 1, 0, none⟩ v0).setCell ⟨w.heap.size + 1, 1, none⟩ v1).setCell ⟨w.heap.size + 1, 2, none⟩ v2).setCell ⟨w.heap.size + 1, 3, none⟩ v3).setCell ⟨w.heap.size + 1, 4, none⟩ v4) := fun v0 v1 v2 v3 v4 =>
      ((((hb.setCell (by show w.heap.size ≤ w.heap.size + 1; omega) _).setCell (by show w.heap.size ≤ w.heap.size + 1; omega) _).setCell (by show w.heap.size ≤ w.heap.size + 1; omega) _).setCell (by show w.heap.size ≤ w.heap.size + 1; omega) _).setCell (by show w.heap.size ≤ w.heap.size + 1; omega) _
    have HB := Lib.hid hbW
    clear hbW
    by_cases hlt : j < names.length
    · have c0 : wr.cell? ⟨g, j, none⟩ = some (.string (bs names[j])) := (hb.cell (p := ⟨g, j, none⟩) hg).trans (HC.out j _ (List.getElem?_eq_getElem hlt))
      rw [List.drop_eq_getElem_cons hlt] at hwk
      generalize names[j] = s at *
      have hkp : ∀ k, F k → wr.heap[k]? = w.heap[k]? := fun k hk => hb.block k (hF k hk)
      have hI := index_call (hNm.kept hkp) s
      have hrg := idxOfS_range (nk.names.map bs) (bs s)
      rw [List.length_map] at hrg
      simp only [walkF] at hwk
      have hnml := hNm.1
      unfold maxLen at hnml
      have hidx : idxF nk.names s = Lib.idxOfS (nk.names.map bs) (bs s) := rfl
      rw [← hidx] at hrg
      clear hidx
      by_cases hk2 : nk.kind = 2
      · by_cases hs0 : s = []
        · have hr : walkF n names = none := by rw [hwk, if_pos (.inr (.inl hs0))]
          have HR := Lib.hid hr
          subst hs0
          have hb0 : bs [] = ⟨#[]⟩ := rfl
          rw [hb0] at c0 hI
          clear hb0
          clear hr hwk
          generalize idxF nk.names [] = k at *
          generalize nk.kind = kk at *
          subst hk2
          go_wp2_with (go_at_call 131; refine hI.mono ?_; rintro e w' ⟨rfl, rfl⟩)
          refine bodyPost_row_tmp (cs := zero5.toArray) rfl rfl rfl Tryz.underlying32 rfl (by kernel_rfl) (set_same (set_same (set_same (set_same (set_same HY.out rfl) rfl) rfl) rfl) rfl) ?_
          unfold WalkPost
          rw [HR.out]
          exact ⟨_, rfl, HB.out _ _ _ _ _, rfl⟩
        · have hq0 : (s == ([] : List UInt8)) = false := by simp [hs0]
          by_cases hk0 : idxF nk.names s < 0
          · have hr : walkF n names = none := by rw [hwk, if_pos (.inr (.inr (.inl hk0)))]
            have HR := Lib.hid hr
            clear hr hwk
            generalize idxF nk.names s = k at *
            generalize nk.kind = kk at *
            subst hk2
            go_wp2_with (go_at_call 131; refine hI.mono ?_; rintro e w' ⟨rfl, rfl⟩)
            refine bodyPost_row_tmp (cs := zero5.toArray) rfl rfl rfl Tryz.underlying32 rfl (by kernel_rfl) (set_same (set_same (set_same (set_same (set_same HY.out rfl) rfl) rfl) rfl) rfl) ?_
            unfold WalkPost
            rw [HR.out]
            exact ⟨_, rfl, HB.out _ _ _ _ _, rfl⟩
          · by_cases hkn : (nk.nodes.length : Int) ≤ idxF nk.names s
            · have hr : walkF n names = none := by rw [hwk, if_pos (.inr (.inr (.inr hkn)))]
              have HR := Lib.hid hr
              clear hr hwk
              generalize idxF nk.names s = k at *
              generalize nk.kind = kk at *
              subst hk2
              go_wp2_with (go_at_call 131; refine hI.mono ?_; rintro e w' ⟨rfl, rfl⟩)
              refine bodyPost_row_tmp (cs := zero5.toArray) rfl rfl rfl Tryz.underlying32 rfl (by kernel_rfl) (set_same (set_same (set_same (set_same (set_same HY.out rfl) rfl) rfl) rfl) rfl) ?_
              unfold WalkPost
              rw [HR.out]
              exact ⟨_, rfl, HB.out _ _ _ _ _, rfl⟩
            · obtain ⟨k, hk⟩ := Int.eq_ofNat_of_zero_le (show 0 ≤ idxF nk.names s by omega)
              rw [hk] at hkn hk0 hI hwk hrg
              have hkl : k < nk.nodes.length := by omega
              rw [if_neg (by rintro (h | h | h | h); exact h hk2; exact hs0 h; omega; omega)] at hwk
              simp only [Int.toNat_natCast, List.getElem?_eq_getElem hkl] at hwk
              obtain ⟨gs, os, dA1, dc1, nA1, nc1, sA1, sc1, rfl, _, hFs, hel, e0, e1, e2, e3, e4⟩ := NdIs.elem (hS.kept hkp) (hNs.kept hkp) k hkl
              have hel2 : NdIs F w nk.nodes[k] _ := hel.kept (fun k hk => (hkp k hk).symm)
              have hsln := hS.1
              unfold maxLen at hsln
              have hgs := hF gs hFs
              have hXne : gs ≠ w.heap.size := by omega
              have HW := Lib.hid hwk
              have hfin : WalkInv F n names w (j + 1) (((((wr.setCell ⟨w.heap.size, 0, none⟩ (.int .i64 nk.nodes[k].kind)).setCell ⟨w.heap.size, 1, none⟩ (.bool nk.nodes[k].exec)).setCell ⟨w.heap.size, 2, none⟩ (.slice dA1 nk.nodes[k].data.length dc1)).setCell ⟨w.heap.size, 3, none⟩ (.slice nA1 nk.nodes[k].names.length nc1)).setCell ⟨w.heap.size, 4, none⟩ (.slice sA1 nk.nodes[k].nodes.length sc1)) := by
                refine ⟨nk.nodes[k], _, HW.out, hel2, set_same (set_same (set_same (set_same (set_same HX.out rfl) rfl) rfl) rfl) rfl, ?_, ((((hb.setCell (Nat.le_refl _) _).setCell (Nat.le_refl _) _).setCell (Nat.le_refl _) _).setCell (Nat.le_refl _) _).setCell (Nat.le_refl _) _⟩
                have hne : w.heap.size + 1 ≠ w.heap.size := by omega
                rw [Below.heap_setCell _ _ _ _ hne, Below.heap_setCell _ _ _ _ hne, Below.heap_setCell _ _ _ _ hne, Below.heap_setCell _ _ _ _ hne, Below.heap_setCell _ _ _ _ hne]
                exact HY.out
              have HF := Lib.hid hfin
              clear hfin hwk hel hel2 hkp
              generalize nk.nodes[k].kind = k1 at *
              generalize nk.nodes[k].exec = b1 at *
              generalize nk.nodes[k].data.length = dn1 at *
              generalize nk.nodes[k].names.length = nn1 at *
              generalize nk.nodes[k].nodes.length = sn1 at *
              generalize hkk : nk.kind = kk at *
              subst hk2
              go_wp2_with (go_at_call 131; refine hI.mono ?_; rintro e w' ⟨rfl, rfl⟩)
              go_roundw
              case rel => exact ⟨j + 1, by omega, by go_num, HF.out⟩
              case measure => simp [intOf]; omega
      · have hq2 : (nk.kind == 2) = false := by simp [hk2]
        have hr : walkF n names = none := by rw [hwk, if_pos (.inl hk2)]
        have HR := Lib.hid hr
        clear hr hwk
        generalize idxF nk.names s = k at *
        generalize nk.kind = kk at *
        go_wp2_with (go_at_call 131; refine hI.mono ?_; rintro e w' ⟨rfl, rfl⟩)
        refine bodyPost_row_tmp (cs := zero5.toArray) rfl rfl rfl Tryz.underlying32 rfl (by kernel_rfl) (set_same (set_same (set_same (set_same (set_same HY.out rfl) rfl) rfl) rfl) rfl) ?_
        unfold WalkPost
        rw [HR.out]
        exact ⟨_, rfl, HB.out _ _ _ _ _, rfl⟩
    · have hr : walkF n names = some nk := by rw [hwk, List.drop_eq_nil_of_le (by omega)]; rfl
      have HR := Lib.hid hr
      have HN := Lib.hid hNk
      clear hr hwk hNk hNm hS
      generalize nk.kind = k1 at *
      generalize nk.exec = b1 at *
      generalize nk.data.length = dn1 at *
      generalize nk.names.length = nn1 at *
      generalize nk.nodes.length = sn1 at *
      go_wp2
      refine bodyPost_row_tmp (cs := #[.int .i64 k1, .bool b1, .slice dA dn1 dc, .slice nA nn1 nc, .slice sA sn1 sc]) rfl rfl rfl Tryz.underlying32 rfl (by kernel_rfl) (set_same (set_same (set_same (set_same (set_same HY.out rfl) rfl) rfl) rfl) rfl) ?_
      unfold WalkPost
      rw [HR.out]
      exact ⟨_, rfl, HB.out _ _ _ _ _, HN.out⟩
end Go.Proofs.YtejpkjcjoengbaaGreatDoor
