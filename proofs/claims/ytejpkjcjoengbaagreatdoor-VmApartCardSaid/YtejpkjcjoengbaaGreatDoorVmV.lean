/-
  machine.input, by walk.
-/
import Derived.Test.YtejpkjcjoengbaaGreatDoorVmU
import Derived.Test.YtejpkjcjoengbaaGreatDoorWdi
set_option linter.unusedVariables false
set_option linter.unusedSimpArgs false
namespace Go.Proofs.YtejpkjcjoengbaaGreatDoor
open Go.RowKit

theorem InsIs.at {F : Nat → Prop} {w : World} : ∀ {l : List (List UInt8 × Nd)} {cells : List Value}, InsIs F w l cells → ∀ (k : Nat) (hk : k < l.length), ∃ c, NdIs F w l[k].2 c ∧ cells[k * 6]? = some (.string (bs l[k].1)) ∧ ∀ j, j < 5 → cells[k * 6 + 1 + j]? = c[j]?
  | [], cells, h, k, hk => by simp at hk
  | (q, n) :: r, cells, h, k, hk => by
    obtain ⟨c1, c2, rfl, h2, h3⟩ := h
    have hl := NdIs.length h2
    cases k with
    | zero => exact ⟨c1, h2, rfl, fun j hj => by simp only [Nat.zero_mul, Nat.zero_add]; rw [Nat.add_comm, List.getElem?_cons_succ, List.getElem?_append_left (by omega)]⟩
    | succ k =>
      obtain ⟨c, h4, h5, h6⟩ := InsIs.at h3 k (by simpa using hk)
      refine ⟨c, h4, ?_, fun j hj => ?_⟩
      · refine Eq.trans ?_ h5
        rw [show (k + 1) * 6 = k * 6 + 5 + 1 by omega, List.getElem?_cons_succ, List.getElem?_append_right (by omega)]
        congr 1
        omega
      · refine Eq.trans ?_ (h6 j hj)
        rw [show (k + 1) * 6 + 1 + j = k * 6 + 1 + j + 5 + 1 by omega, List.getElem?_cons_succ, List.getElem?_append_right (by omega)]
        congr 1
        omega
theorem cutPrefix_call (p q : List UInt8) (s2 : ByteArray) (hs : s2.data.toList = q ++ [47]) (w : World) : Calls Tryz.prog 116 #[.string (bs p), .string s2] w fun e w' => e = .returned (.tuple #[.string (bs (Lib.trimPrefix p (q ++ [47]))), .bool (Lib.hasPrefix p (q ++ [47]))]) ∧ w = w' := by
  have h := Tryz.strings_CutPrefix (bs p) s2 w
  have h1 : (bs p).data.toList = p := by simp [bs]
  rw [h1, hs] at h
  exact h.mono fun e w' ⟨h3, h4⟩ => ⟨h3, h4.symm⟩
set_option maxRecDepth 100000 in
theorem splitSl_call (p : List UInt8) (hp : p.length ≤ 1000000) {w : World} (hg : Glob w) : Calls Tryz.prog 17 #[.string (bs p), .string ⟨#[47]⟩] w fun e w' => e = .returned (.slice (some ⟨w.heap.size, 0, none⟩) (splitSl p).length (splitSl p).length) ∧ w' = w.alloc (.cells (strCells (splitSl p)).toArray 9) := by
  obtain ⟨m, hm⟩ := hg.maxl
  have hlen := Lib.splitB_all ⟨#[47]⟩ (by decide) 0 (Lib.countB (bs p) ⟨#[47]⟩) (bs p) rfl
  have h1 : (splitSl p).length = Lib.countB (bs p) ⟨#[47]⟩ + 1 := by unfold splitSl; rw [List.length_map]; exact hlen
  have h2 : strCells (splitSl p) = (Lib.splitB ⟨#[47]⟩ 0 (Lib.countB (bs p) ⟨#[47]⟩) (bs p)).map Value.string := by
    unfold splitSl strCells
    rw [List.map_map]
    congr 1
  rw [h1, h2]
  exact Tryz.strings_Split (bs p) ⟨#[47]⟩ m w (by rw [bs_size]; omega) hm (by decide)
theorem splitSl_len (p : List UInt8) (hp : p.length ≤ 1000000) : (splitSl p).length ≤ 1000000000000 := by
  have hlen := Lib.splitB_all ⟨#[47]⟩ (by decide) 0 (Lib.countB (bs p) ⟨#[47]⟩) (bs p) rfl
  have h1 : (splitSl p).length = Lib.countB (bs p) ⟨#[47]⟩ + 1 := by unfold splitSl; rw [List.length_map]; exact hlen
  rw [h1]
  have := Lib.countB_le ⟨#[47]⟩ (by decide) _ (bs p) (Nat.le_refl _)
  rw [bs_size] at this
  omega

def InputInv (ins : List (List UInt8 × Nd)) (p : List UInt8) (w : World) (j : Nat) (wr : World) : Prop :=
  inputF ins p = inputF (ins.drop j) p ∧ wr.heap[w.heap.size]? = some (.cells zero5.toArray 32 (0, 0)) ∧ Below w.heap.size w wr

set_option maxHeartbeats 2000000 in
set_option maxRecDepth 100000 in
theorem vm_input {B b : Nat} {w : World} {iv : Value} {ins : List (List UInt8 × Nd)} {cs : List Value} (hB : B ≤ w.heap.size) (hg : Glob w) (hb2 : w.cell? ⟨b, 2, none⟩ = some iv) (hS : SliceIs (fun k => k < B) 6 iv ins.length cs w) (hI : InsIs (fun k => k < B) w ins cs)
    (hpl : ∀ x ∈ ins, x.1.length ≤ 281474976710656) (p : List UInt8) (hp : p.length ≤ 1000000) :
    Calls Tryz.prog 79 #[.pointer (some ⟨b, 0, none⟩), .string (bs p)] w (WalkPost (fun k => k < B) (inputF ins p) w) := by
  have hbl : b < w.heap.size := by
    rcases Nat.lt_or_ge b w.heap.size with h | h
    · exact h
    · simp [World.cell?, Array.getElem?_eq_none h] at hb2
  obtain ⟨hnl, A, c, rfl, hA⟩ := hS
  unfold maxLen at hnl
  have hb2a := (((Below.refl w.heap.size w).alloc (Nat.le_refl _) (.cells zero5.toArray 32)).cell (p := ⟨b, 2, none⟩) hbl).trans hb2
  unfold zero5 at hb2a
  go_enter Tryz.func79, Tryz.ntmps79
  go_wp2
  go_loopw [16] (fun i wr => ∃ j : Nat, j ≤ ins.length ∧ i = .int .i64 j ∧ InputInv ins p w j wr) (fun i wr => ins.length - (intOf i).toNat)
  case atStart => exact ⟨0, Nat.zero_le _, rfl, rfl, heap_alloc_new w _, (Below.refl _ _).alloc (Nat.le_refl _) _⟩
  case round =>
    obtain ⟨j, hj, rfl, hin, hY, hb⟩ := hrel
    by_cases hlt : j < ins.length
    · obtain ⟨g, o, rfl, hgB, hcl, hcs⟩ := hA (by omega)
      obtain ⟨cn, hn, hc0, hcj⟩ := InsIs.at hI j hlt
      obtain ⟨dA, dc, nA, nc, sA, sc, rfl, _⟩ := hn.cells
      have hgw : g < w.heap.size := by omega
      have hc' : ∀ i x, ([.int .i64 ins[j].2.kind, .bool ins[j].2.exec, .slice dA ins[j].2.data.length dc, .slice nA ins[j].2.names.length nc, .slice sA ins[j].2.nodes.length sc] : List Value)[i]? = some x → i < 5 → wr.cell? ⟨g, o + (j * 6 + 1 + i), none⟩ = some x := fun i x hi h5 => (hb.cell (p := ⟨g, o + (j * 6 + 1 + i), none⟩) hgw).trans (hcs _ _ (by rw [hcj i h5]; exact hi))
      have c0 : wr.cell? ⟨g, o + j * 6, none⟩ = some (.string (bs ins[j].1)) := (hb.cell (p := ⟨g, o + j * 6, none⟩) hgw).trans (hcs _ _ hc0)
      have c1 : wr.cell? ⟨g, o + j * 6 + 1, none⟩ = _ := hc' 0 _ rfl (by decide)
      have c2 : wr.cell? ⟨g, o + j * 6 + 2, none⟩ = _ := hc' 1 _ rfl (by decide)
      have c3 : wr.cell? ⟨g, o + j * 6 + 3, none⟩ = _ := hc' 2 _ rfl (by decide)
      have c4 : wr.cell? ⟨g, o + j * 6 + 4, none⟩ = _ := hc' 3 _ rfl (by decide)
      have c5 : wr.cell? ⟨g, o + j * 6 + 5, none⟩ = _ := hc' 4 _ rfl (by decide)
      have hql := hpl ins[j] (List.getElem_mem hlt)
      rw [List.drop_eq_getElem_cons hlt] at hin
      generalize ins[j] = x at *
      obtain ⟨q, n⟩ := x
      simp only [inputF] at hin
      simp only at c0 c1 c2 c3 c4 c5 hn hql
      clear hc' hcj hc0
      by_cases hpq : p = q
      · subst hpq
        have hr : inputF ins p = some n := by rw [hin, if_pos rfl]
        have HR := Lib.hid hr
        have HN := Lib.hid hn
        clear hr hin hn hA hI hpl
        generalize n.kind = k1 at *
        generalize n.exec = b1 at *
        generalize n.data.length = dn1 at *
        generalize n.names.length = nn1 at *
        generalize n.nodes.length = sn1 at *
        have hYa := alloc_heap (o' := .cells #[.string (bs p), .int .i64 k1, .bool b1, .slice dA dn1 dc, .slice nA nn1 nc, .slice sA sn1 sc] 43) hY
        have hba := hb.alloc (o := .cells #[.string (bs p), .int .i64 k1, .bool b1, .slice dA dn1 dc, .slice nA nn1 nc, .slice sA sn1 sc] 43) hb.size
        have y0 := Lib.cell_of_heap hYa 0
        have y1 := Lib.cell_of_heap hYa 1
        have y2 := Lib.cell_of_heap hYa 2
        have y3 := Lib.cell_of_heap hYa 3
        have y4 := Lib.cell_of_heap hYa 4
        have yz0 := Lib.frozen_of_heap hYa 0
        have yz1 := Lib.frozen_of_heap hYa 1
        have yz2 := Lib.frozen_of_heap hYa 2
        have yz3 := Lib.frozen_of_heap hYa 3
        have yz4 := Lib.frozen_of_heap hYa 4
        simp only [zero5, List.getElem?_toArray, List.getElem?_cons_zero, List.getElem?_cons_succ] at y0 y1 y2 y3 y4
        have HY := Lib.hid (And.intro hYa hba)
        clear hYa hba hY
        go_wp2
        refine bodyPost_row_tmp (cs := #[.int .i64 k1, .bool b1, .slice dA dn1 dc, .slice nA nn1 nc, .slice sA sn1 sc]) rfl rfl rfl Tryz.underlying32 rfl (by kernel_rfl) (set_same (set_same (set_same (set_same (set_same HY.out.1 rfl) rfl) rfl) rfl) rfl) ?_
        unfold WalkPost
        rw [HR.out]
        exact ⟨_, rfl, ((((HY.out.2.setCell (by show w.heap.size ≤ w.heap.size; omega) _).setCell (by show w.heap.size ≤ w.heap.size; omega) _).setCell (by show w.heap.size ≤ w.heap.size; omega) _).setCell (by show w.heap.size ≤ w.heap.size; omega) _).setCell (by show w.heap.size ≤ w.heap.size; omega) _, HN.out⟩
      · have hne : (p == q) = false := by simp [hpq]
        rw [if_neg hpq] at hin
        have hcp := fun W => cutPrefix_call p q (bs q ++ ⟨#[47]⟩) (by simp [bs]) W
        by_cases hpre : Lib.hasPrefix p (q ++ [47]) = true
        · rw [if_pos hpre] at hin
          simp only [hpre] at hcp
          have htl : (Lib.trimPrefix p (q ++ [47])).length ≤ 1000000 := by
            unfold Lib.trimPrefix
            split <;> simp <;> omega
          generalize Lib.trimPrefix p (q ++ [47]) = rest at *
          have HR := Lib.hid hin
          have HN := Lib.hid hn
          clear hin hn hA hI hpl
          generalize n.kind = k1 at *
          generalize n.exec = b1 at *
          generalize n.data.length = dn1 at *
          generalize n.names.length = nn1 at *
          generalize n.nodes.length = sn1 at *
          have hYa := alloc_heap (o' := .cells #[.string (bs q), .int .i64 k1, .bool b1, .slice dA dn1 dc, .slice nA nn1 nc, .slice sA sn1 sc] 43) hY
          have hba := hb.alloc (o := .cells #[.string (bs q), .int .i64 k1, .bool b1, .slice dA dn1 dc, .slice nA nn1 nc, .slice sA sn1 sc] 43) hb.size
          have hTa := heap_alloc_new wr (.cells #[.string (bs q), .int .i64 k1, .bool b1, .slice dA dn1 dc, .slice nA nn1 nc, .slice sA sn1 sc] 43)
          have HYT := Lib.hid (And.intro hYa (And.intro hba hTa))
          clear hYa hba hTa hY
          go_wp2_with (go_at_call 116; refine (hcp _).mono ?_; rintro e w' ⟨rfl, rfl⟩)
          obtain ⟨hYa, hba, hTa⟩ := HYT.out
          have hbx : Below w.heap.size w ((wr.alloc (.cells #[.string (bs q), .int .i64 k1, .bool b1, .slice dA dn1 dc, .slice nA nn1 nc, .slice sA sn1 sc] 43)).drew.alloc (.cells (strCells (splitSl rest)).toArray 9)) := hba.drew.alloc (by have := hba.size; simpa using this) _
          have hgx : Glob (wr.alloc (.cells #[.string (bs q), .int .i64 k1, .bool b1, .slice dA dn1 dc, .slice nA nn1 nc, .slice sA sn1 sc] 43)).drew := hg.grown hba.drew
          have hszx : (wr.alloc (.cells #[.string (bs q), .int .i64 k1, .bool b1, .slice dA dn1 dc, .slice nA nn1 nc, .slice sA sn1 sc] 43)).drew.heap.size = wr.heap.size + 1 := by simp
          have hwb : w.heap.size ≤ wr.heap.size := hb.size
          have hWk := vm_walk (w := ((wr.alloc (.cells #[.string (bs q), .int .i64 k1, .bool b1, .slice dA dn1 dc, .slice nA nn1 nc, .slice sA sn1 sc] 43)).drew.alloc (.cells (strCells (splitSl rest)).toArray 9))) (HN.out.kept (fun k hk => hbx.block k (by omega))) (fun k hk => Nat.lt_of_lt_of_le (show k < w.heap.size by omega) hbx.size) (splitSl rest) (wr.heap.size + 1) (splitSl rest).length (by simp) (splitSl_len rest htl) (fun j x hx => by
            have := cell_at (heap_alloc_new (wr.alloc (.cells #[.string (bs q), .int .i64 k1, .bool b1, .slice dA dn1 dc, .slice nA nn1 nc, .slice sA sn1 sc] 43)).drew (.cells (strCells (splitSl rest)).toArray 9)) j (.string (bs x)) (by simp [strCells, hx])
            rw [add_plain, hszx] at this
            exact this)
          have hYx : ((wr.alloc (.cells #[.string (bs q), .int .i64 k1, .bool b1, .slice dA dn1 dc, .slice nA nn1 nc, .slice sA sn1 sc] 43)).drew.alloc (.cells (strCells (splitSl rest)).toArray 9)).heap[w.heap.size]? = _ := alloc_heap hYa
          have hTx : ((wr.alloc (.cells #[.string (bs q), .int .i64 k1, .bool b1, .slice dA dn1 dc, .slice nA nn1 nc, .slice sA sn1 sc] 43)).drew.alloc (.cells (strCells (splitSl rest)).toArray 9)).heap[wr.heap.size]? = _ := alloc_heap hTa
          have HX := Lib.hid (And.intro hbx (And.intro hYx (show w.heap.size + 1 ≤ ((wr.alloc (.cells #[.string (bs q), .int .i64 k1, .bool b1, .slice dA dn1 dc, .slice nA nn1 nc, .slice sA sn1 sc] 43)).drew.alloc (.cells (strCells (splitSl rest)).toArray 9)).heap.size by have := hbx.size; simp; omega)))
          have l1 := Lib.cell_of_heap hTa 1
          have l2 := Lib.cell_of_heap hTa 2
          have l3 := Lib.cell_of_heap hTa 3
          have l4 := Lib.cell_of_heap hTa 4
          have l5 := Lib.cell_of_heap hTa 5
          have r1 := Lib.cell_of_heap hTx 1
          have r2 := Lib.cell_of_heap hTx 2
          have r3 := Lib.cell_of_heap hTx 3
          have r4 := Lib.cell_of_heap hTx 4
          have r5 := Lib.cell_of_heap hTx 5
          simp only [List.getElem?_toArray, List.getElem?_cons_zero, List.getElem?_cons_succ] at l1 l2 l3 l4 l5 r1 r2 r3 r4 r5
          have hsp := splitSl_call rest htl hgx
          clear hTa hTx hYa hYx hba hbx
          cases hwf : walkF n (splitSl rest) with
          | none =>
            rw [hwf] at hWk
            have hWk2 := hWk.mono (fun e w' (h : WalkPost (fun k => k < B) none _ e w') => show (e = .returned (.tuple #[.agg #[.int .i64 0, .bool false, .slice none 0 0, .slice none 0 0, .slice none 0 0], .bool false]) ∧ Below _ _ w') by
              obtain ⟨cl2, h1, h2, h3⟩ := h
              subst h3
              exact ⟨h1, h2⟩)
            have HR2 := HR.out
            rw [hwf] at HR2
            have HR3 := Lib.hid HR2
            clear HR2 HR hWk
            go_region_with (first | (go_at_call 17; refine hsp.mono ?_; rintro e w' ⟨rfl, rfl⟩) | (go_at_call 117; refine hWk2.mono ?_; rintro e w2 ⟨rfl, hb2⟩; have hY2 := (hb2.block w.heap.size (Nat.lt_of_lt_of_le (show w.heap.size < w.heap.size + 1 by omega) (HX.out.2.2))).trans HX.out.2.1; have hw2 := HX.out.1.trans (hb2.mono HX.out.1.size); have y0 := Lib.cell_of_heap hY2 0; have y1 := Lib.cell_of_heap hY2 1; have y2 := Lib.cell_of_heap hY2 2; have y3 := Lib.cell_of_heap hY2 3; have y4 := Lib.cell_of_heap hY2 4; have yz0 := Lib.frozen_of_heap hY2 0; have yz1 := Lib.frozen_of_heap hY2 1; have yz2 := Lib.frozen_of_heap hY2 2; have yz3 := Lib.frozen_of_heap hY2 3; have yz4 := Lib.frozen_of_heap hY2 4; simp only [zero5, List.getElem?_toArray, List.getElem?_cons_zero, List.getElem?_cons_succ] at y0 y1 y2 y3 y4; have HY2 := Lib.hid (And.intro hY2 hw2); clear hY2 hw2))
            all_goals go_wp2
            all_goals refine bodyPost_row_tmp (cs := #[.int .i64 0, .bool false, .slice none 0 0, .slice none 0 0, .slice none 0 0]) rfl rfl rfl Tryz.underlying32 rfl (by kernel_rfl) (set_same (set_same (set_same (set_same (set_same HY2.out.1 rfl) rfl) rfl) rfl) rfl) ?_
            all_goals unfold WalkPost
            all_goals rw [HR3.out]
            all_goals exact ⟨_, rfl, ((((HY2.out.2.setCell (by show w.heap.size ≤ w.heap.size; omega) _).setCell (by show w.heap.size ≤ w.heap.size; omega) _).setCell (by show w.heap.size ≤ w.heap.size; omega) _).setCell (by show w.heap.size ≤ w.heap.size; omega) _).setCell (by show w.heap.size ≤ w.heap.size; omega) _, rfl⟩
          | some m =>
            rw [hwf] at hWk
            have hWk2 := hWk.mono (fun e w' (h : WalkPost (fun k => k < B) (some m) _ e w') => show (∃ dA2 dc2 nA2 nc2 sA2 sc2, e = .returned (.tuple #[.agg #[.int .i64 m.kind, .bool m.exec, .slice dA2 m.data.length dc2, .slice nA2 m.names.length nc2, .slice sA2 m.nodes.length sc2], .bool true]) ∧ Below _ _ w' ∧ NdIs (fun k => k < B) _ m [.int .i64 m.kind, .bool m.exec, .slice dA2 m.data.length dc2, .slice nA2 m.names.length nc2, .slice sA2 m.nodes.length sc2]) by
              obtain ⟨cl2, h1, h2, h3⟩ := h
              obtain ⟨dA2, dc2, nA2, nc2, sA2, sc2, h4, _⟩ := NdIs.cells h3
              subst h4
              exact ⟨dA2, dc2, nA2, nc2, sA2, sc2, h1, h2, h3⟩)
            have HR2 := HR.out
            rw [hwf] at HR2
            have HR3 := Lib.hid HR2
            clear HR2 HR hWk
            go_region_with (first | (go_at_call 17; refine hsp.mono ?_; rintro e w' ⟨rfl, rfl⟩) | (go_at_call 117; refine hWk2.mono ?_; rintro e w2 ⟨dA2, dc2, nA2, nc2, sA2, sc2, rfl, hb2, hm2⟩; have hY2 := (hb2.block w.heap.size (Nat.lt_of_lt_of_le (show w.heap.size < w.heap.size + 1 by omega) (HX.out.2.2))).trans HX.out.2.1; have hw2 := HX.out.1.trans (hb2.mono HX.out.1.size); have y0 := Lib.cell_of_heap hY2 0; have y1 := Lib.cell_of_heap hY2 1; have y2 := Lib.cell_of_heap hY2 2; have y3 := Lib.cell_of_heap hY2 3; have y4 := Lib.cell_of_heap hY2 4; have yz0 := Lib.frozen_of_heap hY2 0; have yz1 := Lib.frozen_of_heap hY2 1; have yz2 := Lib.frozen_of_heap hY2 2; have yz3 := Lib.frozen_of_heap hY2 3; have yz4 := Lib.frozen_of_heap hY2 4; simp only [zero5, List.getElem?_toArray, List.getElem?_cons_zero, List.getElem?_cons_succ] at y0 y1 y2 y3 y4; have HY2 := Lib.hid (And.intro hY2 hw2); have HM2 := Lib.hid hm2; clear hY2 hw2 hm2))
            all_goals go_wp2
            all_goals refine bodyPost_row_tmp (cs := #[.int .i64 m.kind, .bool m.exec, .slice dA2 m.data.length dc2, .slice nA2 m.names.length nc2, .slice sA2 m.nodes.length sc2]) rfl rfl rfl Tryz.underlying32 rfl (by kernel_rfl) (set_same (set_same (set_same (set_same (set_same HY2.out.1 rfl) rfl) rfl) rfl) rfl) ?_
            all_goals unfold WalkPost
            all_goals rw [HR3.out]
            all_goals exact ⟨_, rfl, ((((HY2.out.2.setCell (by show w.heap.size ≤ w.heap.size; omega) _).setCell (by show w.heap.size ≤ w.heap.size; omega) _).setCell (by show w.heap.size ≤ w.heap.size; omega) _).setCell (by show w.heap.size ≤ w.heap.size; omega) _).setCell (by show w.heap.size ≤ w.heap.size; omega) _, HM2.out.kept (fun k hk => (HX.out.1.block k (by omega)).symm)⟩
        · rw [if_neg hpre] at hin
          have hpre2 : Lib.hasPrefix p (q ++ [47]) = false := by simpa using hpre
          simp only [hpre2] at hcp
          generalize Lib.trimPrefix p (q ++ [47]) = rest at *
          have HR := Lib.hid hin
          clear hin hn hA hI hpl
          generalize n.kind = k1 at *
          generalize n.exec = b1 at *
          generalize n.data.length = dn1 at *
          generalize n.names.length = nn1 at *
          generalize n.nodes.length = sn1 at *
          have hYa := alloc_heap (o' := .cells #[.string (bs q), .int .i64 k1, .bool b1, .slice dA dn1 dc, .slice nA nn1 nc, .slice sA sn1 sc] 43) hY
          have hba := hb.alloc (o := .cells #[.string (bs q), .int .i64 k1, .bool b1, .slice dA dn1 dc, .slice nA nn1 nc, .slice sA sn1 sc] 43) hb.size
          have HY := Lib.hid (And.intro hYa hba)
          clear hYa hba hY
          go_wp2_with (go_at_call 116; refine (hcp _).mono ?_; rintro e w' ⟨rfl, rfl⟩)
          go_roundw
          case rel => exact ⟨j + 1, by omega, by go_num, HR.out, HY.out.1, HY.out.2⟩
          case measure => simp [intOf]; omega
    · have hr : inputF ins p = none := by rw [hin, List.drop_eq_nil_of_le (by omega)]; rfl
      have HR := Lib.hid hr
      clear hr hin hA hI hpl
      have y0 := Lib.cell_of_heap hY 0
      have y1 := Lib.cell_of_heap hY 1
      have y2 := Lib.cell_of_heap hY 2
      have y3 := Lib.cell_of_heap hY 3
      have y4 := Lib.cell_of_heap hY 4
      have yz0 := Lib.frozen_of_heap hY 0
      have yz1 := Lib.frozen_of_heap hY 1
      have yz2 := Lib.frozen_of_heap hY 2
      have yz3 := Lib.frozen_of_heap hY 3
      have yz4 := Lib.frozen_of_heap hY 4
      simp only [zero5, List.getElem?_toArray, List.getElem?_cons_zero, List.getElem?_cons_succ] at y0 y1 y2 y3 y4
      have HY := Lib.hid (And.intro hY hb)
      clear hY
      go_wp2
      refine bodyPost_row_tmp (cs := zero5.toArray) rfl rfl rfl Tryz.underlying32 rfl (by kernel_rfl) (set_same (set_same (set_same (set_same (set_same HY.out.1 rfl) rfl) rfl) rfl) rfl) ?_
      unfold WalkPost
      rw [HR.out]
      exact ⟨_, rfl, ((((HY.out.2.setCell (by show w.heap.size ≤ w.heap.size; omega) _).setCell (by show w.heap.size ≤ w.heap.size; omega) _).setCell (by show w.heap.size ≤ w.heap.size; omega) _).setCell (by show w.heap.size ≤ w.heap.size; omega) _).setCell (by show w.heap.size ≤ w.heap.size; omega) _, rfl⟩
end Go.Proofs.YtejpkjcjoengbaaGreatDoor
