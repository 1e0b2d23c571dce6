/-
  package vm: a file put out at the root, by walk.
-/
import Derived.Test.YtejpkjcjoengbaaGreatDoorVmH
import Derived.Lib.ConvBytes
set_option linter.unusedVariables false
set_option linter.unusedSimpArgs false
namespace Go.Proofs.YtejpkjcjoengbaaGreatDoor
open Go.RowKit

section
variable {B b : Nat} {ev av iv : Value} {most : Int} {sv : Value} {ov : Value} {bytes : Int} {lb : List UInt8} {w : World} {st : List (List UInt8)}

/-- Another output, and how many bytes it has. -/
theorem Mac.out (h : Mac B b ev av iv most sv st ov bytes lb w) (ov' : Value) (by' : Int) :
    Mac B b ev av iv most sv st ov' by' lb ((w.setCell ⟨b, 5, none⟩ ov').setCell ⟨b, 6, none⟩ (.int .i64 by')) ∧ Moved b sv sv w ((w.setCell ⟨b, 5, none⟩ ov').setCell ⟨b, 6, none⟩ (.int .i64 by')) := by
  have hs : ∀ k, k ≠ b → ((w.setCell ⟨b, 5, none⟩ ov').setCell ⟨b, 6, none⟩ (.int .i64 by')).heap[k]? = w.heap[k]? := fun k hk => (Below.heap_setCell _ _ _ _ hk).trans (Below.heap_setCell _ _ _ _ hk)
  refine ⟨⟨h.base, set_same (set_same h.blk rfl) rfl, h.stk.kept (row := some b) ⟨rfl, rfl, rfl, by simp [World.setCell], fun k _ hk => hs k (fun e => hk (by simp [e]))⟩ (Or.inr h.ne)⟩, rfl, rfl, rfl, by simp [World.setCell], fun k hk hb _ => hs k hb, fun _ h => .inl h⟩

abbrev nodeV (kind : Int) (exec : Bool) (d na nb : Value) : Array Value := #[.int .i64 kind, .bool exec, d, na, nb]

/-- What emit tells at the root, where nothing is put out yet. -/
def quotaV (bytes most : Int) : Value := if bytes > most then faultV 42 else .nilIface
def RootPost (kind : Int) (exec : Bool) (d na nb : Value) (n : Nat) (B b : Nat) (ev av iv : Value) (most : Int) (sv : Value) (st : List (List UInt8)) (bytes : Int) (lb : List UInt8) (w : World) (e : Ending) (w' : World) : Prop :=
  e = .returned (quotaV (bytes + n) most) ∧ Moved b sv sv w w' ∧ ∃ N, w.heap.size ≤ N ∧ w'.heap[N]? = some (.cells (nodeV kind exec d na nb) 32 (0, 0)) ∧ Mac B b ev av iv most sv st (.pointer (some ⟨N, 0, none⟩)) (bytes + n) lb w'

set_option maxHeartbeats 1000000 in
set_option maxRecDepth 100000 in
theorem vm_emit_root (kind : Int) (exec : Bool) (dA : Option Addr) (n c : Nat) (na nb : Value) (h : Mac B b ev av iv most sv st (.pointer none) bytes lb w) (hb0 : 0 ≤ bytes ∧ bytes ≤ 1000000000) (hn : n ≤ 1000000) :
    Calls Tryz.prog 89 #[.pointer (some ⟨b, 0, none⟩), .string (bs []), .agg (nodeV kind exec (.slice dA n c) na nb)] w (RootPost kind exec (.slice dA n c) na nb n B b ev av iv most sv st bytes lb w) := by
  have hbn : Below w.heap.size w (w.alloc (.cells (nodeV kind exec (.slice dA n c) na nb) 32)) := (Below.refl w.heap.size w).alloc (Nat.le_refl _) _
  have hm := h.kept hbn
  have c5 := hm.cell 5
  have c6 := hm.cell 6
  have c3 := hm.cell 3
  simp at c5 c6 c3
  have f5 := hm.frozen 5
  have f6 := hm.frozen 6
  have c6w := h.cell 6
  have c3w := h.cell 3
  simp at c6w c3w
  have f6w := h.frozen 6
  have hlt := h.lt
  have hne : b ≠ w.heap.size := by omega
  have hdn := heap_alloc_new w (.cells (nodeV kind exec (.slice dA n c) na nb) 32)
  obtain ⟨ho1, ho2⟩ := h.out (.pointer (some ⟨w.heap.size, 0, none⟩)) (bytes + n)
  generalize hW0 : (w.setCell ⟨b, 5, none⟩ (.pointer (some ⟨w.heap.size, 0, none⟩))).setCell ⟨b, 6, none⟩ (.int .i64 (bytes + n)) = W0 at ho1 ho2
  have hsz : W0.heap.size = w.heap.size := by subst hW0; simp [World.setCell]
  have hbo : Below W0.heap.size W0 ((W0.alloc (.cells (nodeV kind exec (.slice dA n c) na nb) 32)).drew.drew) := (((Below.refl W0.heap.size W0).alloc (Nat.le_refl _) _).drew).drew
  have hon : ((W0.alloc (.cells (nodeV kind exec (.slice dA n c) na nb) 32)).drew.drew).heap[w.heap.size]? = some (.cells (nodeV kind exec (.slice dA n c) na nb) 32 (0, 0)) := by rw [← hsz]; exact heap_alloc_new W0 _
  have HO := Lib.hid (And.intro (ho1.kept hbo) (And.intro (ho2.trans (Moved.of_below hbo)) hon))
  clear ho1 ho2 hbo hon hsz
  have HW := Lib.hid hW0
  clear hW0
  have HD := Lib.hid hdn
  clear hdn
  have e2 : (w.alloc (.cells (nodeV kind exec (.slice dA n c) na nb) 32)).cell? ⟨w.heap.size, 2, none⟩ = some (.slice dA n c) := by rw [cell_of_row _ _ _ _ _ _ HD.out]; rfl
  go_enter Tryz.func89, Tryz.ntmps89
  go_wp2
  go_region
  go_wp2
  go_region
  go_wp2
  all_goals go_ret
  all_goals rw [HW.out]
  all_goals obtain ⟨hq1, hq2, hq3⟩ := HO.out
  · rename_i hc
    refine ⟨?_, hq2, w.heap.size, Nat.le_refl _, hq3, hq1⟩
    rw [show quotaV (bytes + n) most = faultV 42 by unfold quotaV; rw [if_pos (by omega)]]
    rfl
  · rename_i hc
    refine ⟨?_, hq2, w.heap.size, Nat.le_refl _, hq3, hq1⟩
    rw [show quotaV (bytes + n) most = .nilIface by unfold quotaV; rw [if_neg (by omega)]]
    rfl
end
end Go.Proofs.YtejpkjcjoengbaaGreatDoor
set_option linter.unusedVariables false
set_option linter.unusedSimpArgs false
namespace Go.Proofs.YtejpkjcjoengbaaGreatDoor
open Go.RowKit

/-- A slice of bytes, new from block L on, and what stands in it. -/
def BytesAt (L : Nat) (v : Value) (y : List UInt8) (w : World) : Prop := ∃ g c, v = .slice (some ⟨g, 0, none⟩) y.length c ∧ L ≤ g ∧ g < w.heap.size ∧ ∀ (j : Nat) x, y[j]? = some x → w.cell? ⟨g, j, none⟩ = some (.int .u8 x.toNat)
/-- A leaf that has been put out. -/
def OutLeaf (L : Nat) (kind : Int) (exec : Bool) (y : List UInt8) (sv ov : Value) (w : World) : Prop :=
  ∃ N d M, ov = .pointer (some ⟨N, 0, none⟩) ∧ M ≤ N ∧ w.heap[N]? = some (.cells (nodeV kind exec d (.slice none 0 0) (.slice none 0 0)) 32 (0, 0)) ∧ BytesAt M d y w ∧ L ≤ M ∧ ∀ k, sv.ownBlock = some k → k < M

section
variable {B b : Nat} {ev av iv : Value} {most : Int} {sv : Value} {ov : Value} {bytes : Int} {lb : List UInt8} {w : World} {st : List (List UInt8)}

theorem Moved.cell {b : Nat} {s s' : Value} {w w' : World} (h : Moved b s s' w w') {k : Nat} (hk : k < w.heap.size) (hb : k ≠ b) (hs : s.ownBlock ≠ some k) (j : Nat) : w'.cell? ⟨k, j, none⟩ = w.cell? ⟨k, j, none⟩ := World.cell?_of_block (h.block k hk hb hs)
theorem Moved.side {b : Nat} {s s' : Value} {w w1 w2 : World} (h : Moved b s s' w w1) (ho : w2.os = w1.os) (ht : w2.tape = w1.tape) (hp : w2.output = w1.output) (hs : w1.heap.size ≤ w2.heap.size) (hb : ∀ k, k < w.heap.size → w2.heap[k]? = w1.heap[k]?) : Moved b s s' w w2 :=
  ⟨ho.trans h.os, ht.trans h.tape, hp.trans h.output, Nat.le_trans h.size hs, fun k hk h1 h2 => (hb k hk).trans (h.block k hk h1 h2), h.fresh⟩

def LeafPost (kind : Int) (exec : Bool) (y : List UInt8) (B b : Nat) (ev av iv : Value) (most : Int) (sv : Value) (s1 : List (List UInt8)) (bytes : Int) (lb : List UInt8) (w : World) (e : Ending) (w' : World) : Prop :=
  e = .returned (quotaV (bytes + y.length) most) ∧ ∃ sv' ov', OutLeaf w.heap.size kind exec y sv' ov' w' ∧ Mac B b ev av iv most sv' s1 ov' (bytes + y.length) lb w' ∧ Moved b sv sv' w w'

set_option maxHeartbeats 1000000 in
set_option maxRecDepth 100000 in
theorem vm_pair_root (kind : Int) (exec : Bool) (s1 : List (List UInt8)) (y : List UInt8) (h : Mac B b ev av iv most sv (s1 ++ [[], y]) (.pointer none) bytes lb w) (hst : (s1 ++ [[], y]).length ≤ 1000) (hy : y.length ≤ 1000000) (hb0 : 0 ≤ bytes ∧ bytes ≤ 1000000000) :
    Calls Tryz.prog 88 #[.pointer (some ⟨b, 0, none⟩), .agg (nodeV kind exec (.slice none 0 0) (.slice none 0 0) (.slice none 0 0))] w (LeafPost kind exec y B b ev av iv most sv s1 bytes lb w) := by
  have kc := fun (W : World) => Lib.run_convert_string_bytes (P := Tryz.prog) W 9 29 5 (bs y) Tryz.underlying9 Tryz.underlying29 Tryz.underlying5
  have hb0' : Below w.heap.size w (w.alloc (.cells (nodeV kind exec (.slice none 0 0) (.slice none 0 0) (.slice none 0 0)) 32)) := (Below.refl w.heap.size w).alloc (Nat.le_refl _) _
  have h0 := h.kept hb0'
  have hlt := h.lt
  go_enter Tryz.func88, Tryz.ntmps88
  go_wp2_with (go_at_call 77; refine (vm_take s1 [[], y] h0 (by simp) hst 2 rfl).mono ?_)
  rintro e w1 ⟨g, c, sv', rfl, ⟨hg, hg1, hg2, hg3⟩, hc, hm, hmv⟩
  have c0 := hc 0 _ rfl
  have c1 := hc 1 _ rfl
  have hnb : w1.heap[w.heap.size]? = some (.cells (nodeV kind exec (.slice none 0 0) (.slice none 0 0) (.slice none 0 0)) 32 (0, 0)) := by
    rw [hmv.block w.heap.size (by simp) (by omega) (fun e => by have := h.stk.lt _ e; omega)]; exact heap_alloc_new w _
  have hgn : w.heap.size < g := by simp at hg; omega
  have hn1 : w.heap.size < w1.heap.size := (Array.getElem?_eq_some_iff.1 hnb).1
  have hsvN : sv'.ownBlock ≠ some w.heap.size := fun e => by
    rcases hmv.fresh _ e with h1 | h1
    · have := h.stk.lt _ h1; omega
    · simp at h1; omega
  have HK := Lib.hid (Moved.trans (Moved.of_below (b := b) (sv := sv) hb0') hmv)
  clear hc hmv
  -- behind the conversion
  have hbb := Go.Joins.below_bytesWorld w1.heap.size w1 5 (bs y) (Nat.le_refl _)
  have hnb2 := (hbb.block _ hn1).trans hnb
  have n2 := Lib.cell_of_heap hnb2 2
  have fn2 := Lib.frozen_of_heap hnb2 2
  simp at n2
  go_wp2
  generalize hV : (Value.slice (some { block := w1.heap.size, off := 0 }) y.length (grownCap w1 y.length 0 5)) = vd
  have hs2 : ∀ k, k ≠ w.heap.size → ((Lib.bytesWorld w1 5 (bs y)).setCell { block := w.heap.size, off := 2 } vd).heap[k]? = (Lib.bytesWorld w1 5 (bs y)).heap[k]? := fun k hk => Below.heap_setCell _ _ _ _ hk
  have hN2 : ((Lib.bytesWorld w1 5 (bs y)).setCell { block := w.heap.size, off := 2 } vd).heap[w.heap.size]? = some (.cells (nodeV kind exec vd (.slice none 0 0) (.slice none 0 0)) 32 (0, 0)) := set_same hnb2 rfl
  have hszb : ((Lib.bytesWorld w1 5 (bs y)).setCell { block := w.heap.size, off := 2 } vd).heap.size = w1.heap.size + 1 := by simp [World.setCell, Lib.bytesWorld_size]
  have hos : ((Lib.bytesWorld w1 5 (bs y)).setCell { block := w.heap.size, off := 2 } vd).os = w1.os := hbb.os
  have hta : ((Lib.bytesWorld w1 5 (bs y)).setCell { block := w.heap.size, off := 2 } vd).tape = w1.tape := hbb.tape
  have hou : ((Lib.bytesWorld w1 5 (bs y)).setCell { block := w.heap.size, off := 2 } vd).output = w1.output := hbb.output
  generalize hw2 : (Lib.bytesWorld w1 5 (bs y)).setCell { block := w.heap.size, off := 2 } vd = w2 at *
  have hold : ∀ k, k < w1.heap.size → k ≠ w.heap.size → w2.heap[k]? = w1.heap[k]? := fun k hk hn => (hs2 k hn).trans (hbb.block k hk)
  have hm2 : Mac B b ev av iv most sv' s1 (.pointer none) bytes lb w2 := ⟨hm.base, (hold b hm.lt (by omega)).trans hm.blk, hm.stk.kept (row := some w.heap.size) ⟨hos, hta, hou, by omega, fun k hk hn => hold k hk (fun e => hn (by simp [e]))⟩ (Or.inr hsvN)⟩
  have hmv2 : Moved b sv sv' w w2 := HK.out.side hos hta hou (by omega) (fun k hk => hold k (by omega) (by omega))
  have hdat : BytesAt w1.heap.size vd y w2 := by
    subst hV
    refine ⟨w1.heap.size, _, rfl, Nat.le_refl _, by omega, fun j x hx => ?_⟩
    rw [World.cell?_of_block (hs2 w1.heap.size (by omega)), Lib.bytesWorld_cell w1 _ (bs y) j (by rw [bs_size]; exact (List.getElem?_eq_some_iff.1 hx).1)]
    simp [List.getD, hx]
  have hgc : w2.cell? ⟨g, 0, none⟩ = some (.string (bs [])) := (World.cell?_of_block (hold g hg1 (by omega))).trans c0
  have n0 := Lib.cell_of_heap hN2 0
  have n1 := Lib.cell_of_heap hN2 1
  have n2' := Lib.cell_of_heap hN2 2
  have n3 := Lib.cell_of_heap hN2 3
  have n4 := Lib.cell_of_heap hN2 4
  simp at n0 n1 n2' n3 n4
  have HA := Lib.hid (And.intro hmv2 hdat)
  clear hw2 hs2 hN2 hold hos hta hou hmv2 hdat n2 fn2 hnb2 hbb hnb c0 c1 kc h0 hb0'
  obtain ⟨gd, cd, hvd⟩ : ∃ gd cd, vd = .slice (some ⟨gd, 0, none⟩) y.length cd := ⟨_, _, hV.symm⟩
  clear hV
  subst hvd
  have hemit := vm_emit_root (w := w2.drew) kind exec (some ⟨gd, 0, none⟩) y.length cd (.slice none 0 0) (.slice none 0 0) (hm2.kept (Below.refl _ _).drew) hb0 hy
  go_region_held3 (fun w' => w'.cell? ⟨g, 0, none⟩ = some (.string (bs [])) ∧ w'.cell? ⟨w.heap.size, 0, none⟩ = some (.int .i64 kind) ∧ w'.cell? ⟨w.heap.size, 1, none⟩ = some (.bool exec) ∧ w'.cell? ⟨w.heap.size, 2, none⟩ = some (.slice (some ⟨gd, 0, none⟩) y.length cd) ∧ w'.cell? ⟨w.heap.size, 3, none⟩ = some (.slice none 0 0) ∧ w'.cell? ⟨w.heap.size, 4, none⟩ = some (.slice none 0 0)) (first | go_keep | exact ⟨(hmv3.cell (k := g) (by omega) hg2 hg3 0).trans hgc, (hmv3.cell (k := w.heap.size) (by omega) (by omega) hsvN 0).trans n0, (hmv3.cell (k := w.heap.size) (by omega) (by omega) hsvN 1).trans n1, (hmv3.cell (k := w.heap.size) (by omega) (by omega) hsvN 2).trans n2', (hmv3.cell (k := w.heap.size) (by omega) (by omega) hsvN 3).trans n3, (hmv3.cell (k := w.heap.size) (by omega) (by omega) hsvN 4).trans n4⟩) ((go_at_call 89; refine hemit.mono ?_; rintro e w3 ⟨rfl, hmv3, hq3⟩; replace hmv3 := (Moved.of_below (sv := sv') (b := b) ((Below.refl w2.heap.size w2).drew)).trans hmv3))
  obtain ⟨N, hN0, hN, hm3⟩ := hq3
  go_wp2
  go_ret
  obtain ⟨hmv2, gd', cd', hv, hd1, hd2, hd3⟩ := HA.out
  injection hv with hv1 hv2 hv3
  injection hv1 with hv1
  injection hv1 with hv1
  subst hv1 hv3
  have hN1 : w2.heap.size ≤ N := by simpa using hN0
  refine ⟨rfl, sv', _, ⟨N, _, w1.heap.size, rfl, by omega, hN, ⟨gd, cd, rfl, hd1, Nat.lt_of_lt_of_le hd2 hmv3.size, fun j x hx => ?_⟩, by omega, fun k hk => (hm.stk.lt k hk).2⟩, hm3, hmv2.trans hmv3⟩
  have hbl := hm.lt
  exact (hmv3.cell (k := gd) hd2 (by omega) (fun e => by have := hm.stk.lt _ e; omega) j).trans (hd3 j x hx)

set_option maxHeartbeats 1000000 in
set_option maxRecDepth 100000 in
theorem vm_file_root (s1 : List (List UInt8)) (y : List UInt8) (h : Mac B b ev av iv most sv (s1 ++ [[], y]) (.pointer none) bytes lb w) (hst : (s1 ++ [[], y]).length ≤ 1000) (hy : y.length ≤ 1000000) (hb0 : 0 ≤ bytes ∧ bytes ≤ 1000000000) (s : ByteArray) :
    Calls Tryz.prog 50 #[.pointer (some ⟨b, 0, none⟩), .string s] w (LeafPost 1 false y B b ev av iv most sv s1 bytes lb w) := by
  go_enter Tryz.func50, Tryz.ntmps50
  go_wp2_with (go_at_call 88; go_loud (refine (vm_pair_root 1 false s1 y h hst hy hb0).mono ?_); rintro e w1 ⟨rfl, hq⟩)
  go_ret
  exact ⟨rfl, hq⟩
end
end Go.Proofs.YtejpkjcjoengbaaGreatDoor
