/-
  stillroomref06.Same at two nodes that are the same, by walk.
-/
import Derived.Test.YtejpkjcjoengbaaGreatDoorRight
import Derived.Test.YtejpkjcjoengbaaGreatDoorConv
set_option linter.unusedVariables false
set_option linter.unusedSimpArgs false
namespace Go.Proofs.YtejpkjcjoengbaaGreatDoor
open Go.RowKit

def SameP (n : Nd) : Prop := ∀ (F G : Nat → Prop) (w : World) (ca cb : List Value), NdIs F w n ca → NdIs G w n cb → (∀ k, F k → k < w.heap.size) → (∀ k, G k → k < w.heap.size) →
  Calls Tryz.prog 10 #[.agg ca.toArray, .agg cb.toArray] w fun x w' => x = .returned (.bool true) ∧ Below w.heap.size w w'

set_option maxHeartbeats 1000000 in
set_option maxRecDepth 100000 in
theorem same_walk (k0 : Int) (e0 : Bool) (d : List UInt8) (na : List (List UInt8)) (ns : List Nd) (ih : ∀ x ∈ ns, SameP x) : SameP (.mk k0 e0 d na ns) := by
  intro F G w ca cb hA hB hF hG
  obtain ⟨dA, dc, nA, nc, sA, sc, rfl, hD, hNm, cs, hS, hNs⟩ := hA.cells
  obtain ⟨dA2, dc2, nA2, nc2, sA2, sc2, rfl, hD2, hNm2, cs2, hS2, hNs2⟩ := hB.cells
  simp only [Nd.kind, Nd.exec, Nd.data, Nd.names, Nd.nodes] at *
  have hdl := hD.1
  have hnl := hNm.1
  have hsl := hS.1
  unfold maxLen at hdl hnl hsl
  have hb0 : Below w.heap.size w ((w.alloc (.cells #[.int .i64 k0, .bool e0, .slice dA d.length dc, .slice nA na.length nc, .slice sA ns.length sc] 32)).alloc (.cells #[.int .i64 k0, .bool e0, .slice dA2 d.length dc2, .slice nA2 na.length nc2, .slice sA2 ns.length sc2] 32)) := ((Below.refl _ _).alloc (Nat.le_refl _) _).alloc (by simp) _
  have hcv1 := conv_bytes (hD.kept (fun k hk => hb0.block k (hF k hk)))
  have hcv2 := conv_bytes (hD2.kept (fun k hk => hb0.block k (hG k hk)))
  have hds := bs_size d
  go_enter Tryz.func10, Tryz.ntmps10
  go_wp2
  have hx1 : ((w.alloc (.cells #[.int .i64 k0, .bool e0, .slice dA d.length dc, .slice nA na.length nc, .slice sA ns.length sc] 32)).alloc (.cells #[.int .i64 k0, .bool e0, .slice dA2 d.length dc2, .slice nA2 na.length nc2, .slice sA2 ns.length sc2] 32)).heap[w.heap.size]? = some (.cells #[.int .i64 k0, .bool e0, .slice dA d.length dc, .slice nA na.length nc, .slice sA ns.length sc] 32 (0, 0)) := (Below.heap_alloc _ _ _ (by simp)).trans (heap_alloc_new w _)
  have hx2 : ((w.alloc (.cells #[.int .i64 k0, .bool e0, .slice dA d.length dc, .slice nA na.length nc, .slice sA ns.length sc] 32)).alloc (.cells #[.int .i64 k0, .bool e0, .slice dA2 d.length dc2, .slice nA2 na.length nc2, .slice sA2 ns.length sc2] 32)).heap[w.heap.size + 1]? = some (.cells #[.int .i64 k0, .bool e0, .slice dA2 d.length dc2, .slice nA2 na.length nc2, .slice sA2 ns.length sc2] 32 (0, 0)) := by
    have := heap_alloc_new (w.alloc (.cells #[.int .i64 k0, .bool e0, .slice dA d.length dc, .slice nA na.length nc, .slice sA ns.length sc] 32)) (.cells #[.int .i64 k0, .bool e0, .slice dA2 d.length dc2, .slice nA2 na.length nc2, .slice sA2 ns.length sc2] 32)
    simpa using this
  clear hcv1 hcv2
  generalize ((w.alloc (.cells #[.int .i64 k0, .bool e0, .slice dA d.length dc, .slice nA na.length nc, .slice sA ns.length sc] 32)).alloc (.cells #[.int .i64 k0, .bool e0, .slice dA2 d.length dc2, .slice nA2 na.length nc2, .slice sA2 ns.length sc2] 32)) = W at *
  have hsW1 : w.heap.size < W.heap.size := (Array.getElem?_eq_some_iff.1 hx1).1
  have hsW2 : w.heap.size + 1 < W.heap.size := (Array.getElem?_eq_some_iff.1 hx2).1
  go_loopw [5] (fun i wx => ∃ k : Nat, k ≤ na.length ∧ i = .int .i64 k ∧ Below W.heap.size W wx) (fun i wx => na.length - (intOf i).toNat)
  case atStart => exact ⟨0, Nat.zero_le _, rfl, Below.refl _ _⟩
  case round =>
    obtain ⟨k, hk, rfl, hbr⟩ := hrel
    have hy1 := (hbr.block _ hsW1).trans hx1
    have hy2 := (hbr.block _ hsW2).trans hx2
    have p3 := Lib.cell_of_heap hy1 3
    have r3 := Lib.cell_of_heap hy2 3
    simp at p3 r3
    by_cases hlt : k < na.length
    · obtain ⟨_, A1, c1, hv1, hz1⟩ := hNm
      obtain ⟨_, A2, c2, hv2, hz2⟩ := hNm2
      injection hv1 with e1 e2 e3
      injection hv2 with e4 e5 e6
      subst e1 e3 e4 e6
      obtain ⟨g1, o1, rfl, hg1, _, hc1⟩ := hz1 (by omega)
      obtain ⟨g2, o2, rfl, hg2, _, hc2⟩ := hz2 (by omega)
      have hbb := hb0.trans (hbr.mono hb0.size)
      have q1 := (hbb.cell (p := ⟨g1, o1 + k, none⟩) (hF g1 hg1)).trans (hc1 k _ (strCells_at na k hlt))
      have q2 := (hbb.cell (p := ⟨g2, o2 + k, none⟩) (hG g2 hg2)).trans (hc2 k _ (strCells_at na k hlt))
      generalize na[k] = x at *
      have HY := Lib.hid (And.intro hy1 hy2)
      clear hy1 hy2 hx1 hx2 hc1 hc2
      go_wp2
      go_quiet (fail)
      have hbq : Below W.heap.size W (wr.drewN nq) := ⟨hbr.os, hbr.tape, hbr.output, hbr.size, hbr.block⟩
      go_wp2
      go_roundw
      case rel => exact ⟨k + 1, by omega, by go_num, ⟨hbq.os, hbq.tape, hbq.output, hbq.size, hbq.block⟩⟩
      case measure => simp [intOf]; omega
    · obtain rfl : k = na.length := by omega
      have HY := Lib.hid (And.intro hy1 hy2)
      clear hy1 hy2
      go_wp2
      go_loopw [6] (fun i wx => ∃ k : Nat, k ≤ ns.length ∧ i = .int .i64 k ∧ Below W.heap.size W wx) (fun i wx => ns.length - (intOf i).toNat)
      case atStart => exact ⟨0, Nat.zero_le _, rfl, hbr⟩
      case round =>
        obtain ⟨k, hk, rfl, hbr⟩ := hrel
        have hy1 := (hbr.block _ hsW1).trans hx1
        have hy2 := (hbr.block _ hsW2).trans hx2
        have p4 := Lib.cell_of_heap hy1 4
        have r4 := Lib.cell_of_heap hy2 4
        simp at p4 r4
        have hbb := hb0.trans (hbr.mono hb0.size)
        by_cases hlt : k < ns.length
        · have hkp : ∀ k, F k → wr.heap[k]? = w.heap[k]? := fun k hk => hbb.block k (hF k hk)
          have hkp2 : ∀ k, G k → wr.heap[k]? = w.heap[k]? := fun k hk => hbb.block k (hG k hk)
          obtain ⟨g1, o1, xA, xc, yA, yc, zA, zc, rfl, _, hFg, hel, c0, c1, c2, c3, c4⟩ := NdIs.elem (hS.kept hkp) (hNs.kept hkp) k hlt
          obtain ⟨g2, o2, xA2, xc2, yA2, yc2, zA2, zc2, rfl, _, hFg2, hel2, d0, d1, d2, d3, d4⟩ := NdIs.elem (hS2.kept hkp2) (hNs2.kept hkp2) k hlt
          have hka := @NdIs.kept F wr wr.drew (fun _ _ => rfl) _ _ hel
          have hkb := @NdIs.kept G wr wr.drew (fun _ _ => rfl) _ _ hel2
          have ihx := ih ns[k] (List.getElem_mem hlt) F G wr.drew _ _ hka hkb (fun k hk => Nat.lt_of_lt_of_le (hF k hk) hbb.size) (fun k hk => Nat.lt_of_lt_of_le (hG k hk) hbb.size)
          have hgl1 : g1 < wr.heap.size := Nat.lt_of_lt_of_le (hF g1 hFg) hbb.size
          have hgl2 : g2 < wr.heap.size := Nat.lt_of_lt_of_le (hG g2 hFg2) hbb.size
          have hwl1 : w.heap.size < wr.heap.size := Nat.lt_of_lt_of_le hsW1 hbr.size
          have hwl2 : w.heap.size + 1 < wr.heap.size := Nat.lt_of_lt_of_le hsW2 hbr.size
          generalize ns[k] = x at *
          generalize x.kind = kk at *
          generalize x.exec = ee at *
          generalize x.data.length = dn at *
          generalize x.names.length = nn at *
          generalize x.nodes.length = sn at *
          have HY2 := Lib.hid (And.intro hy1 hy2)
          have hNr := hbr.size
          clear hy1 hy2 hel hel2 hka hkb hkp hkp2 hx1 hx2 ih
          go_wp2_with (fail)
          go_region_held3 (fun V => (V.cell? ⟨w.heap.size, 4, none⟩ = some (.slice (some ⟨g1, o1, none⟩) ns.length sc) ∧ V.cell? ⟨w.heap.size + 1, 4, none⟩ = some (.slice (some ⟨g2, o2, none⟩) ns.length sc2)) ∧
              (V.cell? ⟨g1, o1 + k * 5, none⟩ = some (.int .i64 kk) ∧ V.cell? ⟨g1, o1 + k * 5 + 1, none⟩ = some (.bool ee) ∧ V.cell? ⟨g1, o1 + k * 5 + 2, none⟩ = some (.slice xA dn xc) ∧ V.cell? ⟨g1, o1 + k * 5 + 3, none⟩ = some (.slice yA nn yc) ∧ V.cell? ⟨g1, o1 + k * 5 + 4, none⟩ = some (.slice zA sn zc)) ∧
              (V.cell? ⟨g2, o2 + k * 5, none⟩ = some (.int .i64 kk) ∧ V.cell? ⟨g2, o2 + k * 5 + 1, none⟩ = some (.bool ee) ∧ V.cell? ⟨g2, o2 + k * 5 + 2, none⟩ = some (.slice xA2 dn xc2) ∧ V.cell? ⟨g2, o2 + k * 5 + 3, none⟩ = some (.slice yA2 nn yc2) ∧ V.cell? ⟨g2, o2 + k * 5 + 4, none⟩ = some (.slice zA2 sn zc2)))
            (first | exact ⟨⟨p4, r4⟩, ⟨c0, c1, c2, c3, c4⟩, ⟨d0, d1, d2, d3, d4⟩⟩ | exact ⟨⟨(hb2.cell (p := ⟨w.heap.size, 4, none⟩) hwl1).trans p4, (hb2.cell (p := ⟨w.heap.size + 1, 4, none⟩) hwl2).trans r4⟩, ⟨(hb2.cell (p := ⟨g1, o1 + k * 5, none⟩) hgl1).trans c0, (hb2.cell (p := ⟨g1, o1 + k * 5 + 1, none⟩) hgl1).trans c1, (hb2.cell (p := ⟨g1, o1 + k * 5 + 2, none⟩) hgl1).trans c2, (hb2.cell (p := ⟨g1, o1 + k * 5 + 3, none⟩) hgl1).trans c3, (hb2.cell (p := ⟨g1, o1 + k * 5 + 4, none⟩) hgl1).trans c4⟩, ⟨(hb2.cell (p := ⟨g2, o2 + k * 5, none⟩) hgl2).trans d0, (hb2.cell (p := ⟨g2, o2 + k * 5 + 1, none⟩) hgl2).trans d1, (hb2.cell (p := ⟨g2, o2 + k * 5 + 2, none⟩) hgl2).trans d2, (hb2.cell (p := ⟨g2, o2 + k * 5 + 3, none⟩) hgl2).trans d3, (hb2.cell (p := ⟨g2, o2 + k * 5 + 4, none⟩) hgl2).trans d4⟩⟩)
            ((go_at_call 10; refine ihx.mono ?_; rintro e w2 ⟨rfl, hb2⟩))
          have hb3 : Below W.heap.size W w2 := hbr.trans ((show Below wr.heap.size wr w2 from ⟨hb2.os, hb2.tape, hb2.output, hb2.size, hb2.block⟩).mono hbr.size)
          go_wp2
          go_roundw
          case rel => exact ⟨k + 1, by omega, by go_num, hb3⟩
          case measure => simp [intOf]; omega
        · obtain rfl : k = ns.length := by omega
          have HY2 := Lib.hid (And.intro hy1 hy2)
          clear hy1 hy2
          go_wp2
          go_ret
          exact ⟨rfl, hbb⟩
mutual
theorem same_any : ∀ n : Nd, SameP n
  | .mk k e d na ns => same_walk k e d na ns (sames_any ns)
theorem sames_any : ∀ (l : List Nd) (x : Nd), x ∈ l → SameP x
  | [], x, h => absurd h (by simp)
  | n :: r, x, h => by
    rcases List.mem_cons.1 h with h | h
    · rw [h]; exact same_any n
    · exact sames_any r x h
end
end Go.Proofs.YtejpkjcjoengbaaGreatDoor
