/-
  A caller's data, as the walks wish it: texts, slices of texts, pairs, nodes, inputs.
-/
import Derived.Test.YtejpkjcjoengbaaGreatDoorCardBase
import Derived.Test.YtejpkjcjoengbaaGreatDoorWdi
import Derived.ChangeArms
set_option linter.unusedVariables false
set_option linter.unusedSimpArgs false
namespace Go.Proofs.YtejpkjcjoengbaaGreatDoor
open Go.ChangeShapes Go.WideShapes Go.ChangeAt Go.RowKit

def RowsOf {α : Type} (R : α → List Value → Prop) : List α → List Value → Prop
  | [], c => c = []
  | x :: r, c => ∃ c1 c2, c = c1 ++ c2 ∧ R x c1 ∧ RowsOf R r c2
theorem addr_add (g o j : Nat) : (⟨g, o, none⟩ : Addr).add j = ⟨g, o + j, none⟩ := by unfold Addr.add; split <;> simp_all
theorem rows_at {α : Type} {R : α → List Value → Prop} {w : World} {g o size : Nat} : ∀ (len off : Nat), (∀ i, i < len → ∃ y c, w.cells? 0 ⟨g, o + (off + i) * size, none⟩ size = some c ∧ R y c) →
    ∃ ys cells, ys.length = len ∧ cells.length = len * size ∧ (∀ (j : Nat) v, cells[j]? = some v → w.cell? ⟨g, o + off * size + j, none⟩ = some v) ∧ RowsOf R ys cells
  | 0, off, h => ⟨[], [], rfl, by simp, by simp, rfl⟩
  | n + 1, off, h => by
    obtain ⟨y, c, hc, hr⟩ := h 0 (by omega)
    obtain ⟨ys, cells, h1, h2, h3, h4⟩ := rows_at n (off + 1) (fun i hi => by
      have := h (i + 1) (by omega)
      rwa [show off + (i + 1) = off + 1 + i by omega] at this)
    obtain ⟨_, hcl, hcc⟩ := World.cells?_some hc
    refine ⟨y :: ys, c ++ cells, by simp [h1], by rw [List.length_append, h2, hcl, Nat.succ_mul]; omega, ?_, c, cells, rfl, hr, h4⟩
    intro j v hv
    by_cases hj : j < size
    · rw [List.getElem?_append_left (by omega)] at hv
      have := hcc j hj
      rw [addr_add, Nat.add_zero] at this
      rw [this, hv]
    · rw [List.getElem?_append_right (by omega), hcl] at hv
      have := h3 _ _ hv
      rwa [show o + (off + 1) * size + (j - size) = o + off * size + j by rw [Nat.succ_mul]; omega] at this

section
variable {H : Type} {enc : TypeId × Value → H} {W : World} {held : Bool}
theorem open_rows {α : Type} {R : α → List Value → Prop} {t e : TypeId} {size fuel : Nat} {cs : List Value} {x : DataW H × List MemPlace} (ht : Tryz.prog.underlying t = some (.slice e)) (hc : Tryz.prog.cellsOf e = size) (hs : 0 < size)
    (h : DataW.trod enc Tryz.prog W 0 (fun _ => true) held fuel t cs = some x) (hR : ∀ n c y, n < fuel → DataW.trod enc Tryz.prog W 0 (fun _ => true) held n e c = some y → ∃ a, R a c) :
    ∃ v ys cells, cs = [v] ∧ SliceIs (fun k => k < W.heap.size) size v ys.length cells W ∧ RowsOf R ys cells := by
  rcases DataW.trod_slice ht h with ⟨h0, _⟩ | ⟨a, len, cap, elems, rest, n, rfl, rfl, _, _, hl, hm, hlen, hel, _, _⟩
  · exact ⟨_, [], [], h0, SliceIs.nil _ _ _, rfl⟩
  · rw [hc] at hel
    have each : ∀ i, i < len → ∃ y c, W.cells? 0 (a.add (i * size)) size = some c ∧ R y c := fun i hi => by
      have h1 := hel i hi
      rw [List.getElem?_eq_getElem (by omega), Option.bind_eq_some_iff] at h1
      obtain ⟨c, h2, h3⟩ := h1
      obtain ⟨y, hy⟩ := hR n c _ (by omega) h3
      exact ⟨y, c, h2, hy⟩
    rcases Nat.eq_zero_or_pos len with h0 | h0
    · subst h0
      exact ⟨_, [], [], rfl, ⟨Nat.zero_le _, some a, cap, rfl, fun h => absurd h (Nat.lt_irrefl _)⟩, rfl⟩
    · obtain ⟨y0, c0, hc0, _⟩ := each 0 h0
      obtain ⟨_, hcl, hcc⟩ := World.cells?_some hc0
      have h00 := hcc 0 hs
      rw [List.getElem?_eq_getElem (by omega)] at h00
      obtain ⟨g, o, sp⟩ := a
      have hsp : sp = none := by
        have := World.cell?_spot h00
        simpa [Addr.add] using this
      subst hsp
      rw [addr_add, addr_add] at h00
      obtain ⟨ys, cells, e1, e2, e3, e4⟩ := rows_at (R := R) (w := W) (g := g) (o := o) (size := size) len 0 (fun i hi => by
        have := each i hi
        rwa [addr_add, show i = 0 + i by omega] at this)
      subst e1
      refine ⟨_, ys, cells, rfl, ⟨by omega, _, _, rfl, fun _ => ⟨g, o, rfl, ?_, e2, fun j v hv => ?_⟩⟩, e4⟩
      · rcases Nat.lt_or_ge g W.heap.size with h | h
        · exact h
        · simp [World.cell?, Array.getElem?_eq_none h] at h00
      · have := e3 j v hv
        rwa [show o + 0 * size + j = o + j by omega] at this

theorem rows_map {α : Type} {R : α → List Value → Prop} {f : α → List Value} (hR : ∀ a c, R a c → c = f a) : ∀ (l : List α) {c : List Value}, RowsOf R l c → c = l.flatMap f
  | [], c, h => h
  | x :: r, c, h => by
    obtain ⟨c1, c2, rfl, h1, h2⟩ := h
    rw [List.flatMap_cons, ← hR _ _ h1, ← rows_map hR r h2]
theorem fm1 {α β : Type} (f : α → β) (l : List α) : l.flatMap (fun x => [f x]) = l.map f := by
  induction l with
  | nil => rfl
  | cons a r ih => rw [List.flatMap_cons, ih]; rfl
theorem cU8 : Tryz.prog.cellsOf 5 = 1 := by kernel_rfl
theorem cInt : Tryz.prog.cellsOf 3 = 1 := by kernel_rfl
theorem cBool : Tryz.prog.cellsOf 4 = 1 := by kernel_rfl
theorem cBytes : Tryz.prog.cellsOf 29 = 1 := by kernel_rfl
theorem cStrs : Tryz.prog.cellsOf 23 = 1 := by kernel_rfl
theorem cNds : Tryz.prog.cellsOf 30 = 1 := by kernel_rfl
theorem cNd : Tryz.prog.cellsOf 32 = 5 := by kernel_rfl
theorem cPair : Tryz.prog.cellsOf 46 = 2 := by kernel_rfl
theorem cPairs : Tryz.prog.cellsOf 22 = 1 := by kernel_rfl
theorem cInput : Tryz.prog.cellsOf 43 = 6 := by kernel_rfl
theorem cInputs : Tryz.prog.cellsOf 24 = 1 := by kernel_rfl
theorem cWorld : Tryz.prog.cellsOf 26 = 3 := by kernel_rfl

theorem fld {P : Program} {n : Nat} {fs : Array Field} {cs : List Value} {xs : List (DataW H × List MemPlace)} (hf : ∀ (i : Nat) (f : Field), fs[i]? = some f → DataW.trod enc P W 0 (fun _ => true) held n f.type ((cs.drop f.offset).take (P.cellsOf f.type)) = xs[i]?)
    (i ty off k : Nat) (h : (fs[i]?).map (fun f => (f.type, f.offset)) = some (ty, off)) (hk : P.cellsOf ty = k) (hx : i < xs.length) : DataW.trod enc P W 0 (fun _ => true) held n ty ((cs.drop off).take k) = some xs[i] := by
  cases hfi : fs[i]? with
  | none => rw [hfi] at h; cases h
  | some f =>
    rw [hfi] at h
    injection h with h
    injection h with h1 h2
    subst h1 h2 hk
    rw [hf i f hfi, List.getElem?_eq_getElem hx]
theorem open_bs {t : TypeId} {fuel : Nat} {cs : List Value} {x : DataW H × List MemPlace} (ht : Tryz.prog.underlying t = some .string) (h : DataW.trod enc Tryz.prog W 0 (fun _ => true) held fuel t cs = some x) : ∃ s : List UInt8, cs = [.string (bs s)] ∧ s.length ≤ maxLen := by
  obtain ⟨s, rfl, _, hs⟩ := DataW.trod_string ht h
  refine ⟨s.data.toList, rfl, ?_⟩
  rw [Array.length_toList]
  exact hs
theorem open_bytes {fuel : Nat} {cs : List Value} {x : DataW H × List MemPlace} (h : DataW.trod enc Tryz.prog W 0 (fun _ => true) held fuel 29 cs = some x) : ∃ v b, cs = [v] ∧ SliceIs (fun k => k < W.heap.size) 1 v (List.length b) (byteCells b) W := by
  obtain ⟨v, b, c, e1, e2, e3⟩ := open_rows (R := fun (b : UInt8) c => c = [.int .u8 b.toNat]) Tryz.underlying29 cU8 (by decide) h (fun n c y _ hy => by
    obtain ⟨z, rfl, _, hw⟩ := DataW.trod_int Tryz.underlying5 hy
    simp only [Lit.wf, Bool.and_eq_true, decide_eq_true_eq] at hw
    have m1 : IntKind.u8.min = 0 := by rfl
    have m2 : IntKind.u8.max = 255 := by rfl
    rw [m1, m2] at hw
    refine ⟨UInt8.ofNat z.toNat, ?_⟩
    congr 2
    simp
    omega)
  have := rows_map (f := fun (b : UInt8) => [.int .u8 b.toNat]) (fun a c h => h) b e3
  refine ⟨v, b, e1, ?_⟩
  rw [this, fm1] at e2
  exact e2
theorem open_names {fuel : Nat} {cs : List Value} {x : DataW H × List MemPlace} (h : DataW.trod enc Tryz.prog W 0 (fun _ => true) held fuel 23 cs = some x) : ∃ v b, cs = [v] ∧ SliceIs (fun k => k < W.heap.size) 1 v (List.length b) (strCells b) W := by
  obtain ⟨v, b, c, e1, e2, e3⟩ := open_rows (R := fun (b : List UInt8) c => c = [.string (bs b)]) Tryz.underlying23 cStr (by decide) h (fun n c y _ hy => by
    obtain ⟨s, rfl, _⟩ := open_bs Tryz.underlying9 hy
    exact ⟨s, rfl⟩)
  have := rows_map (f := fun (b : List UInt8) => [.string (bs b)]) (fun a c h => h) b e3
  refine ⟨v, b, e1, ?_⟩
  rw [this, fm1] at e2
  exact e2

theorem rows_nds {F : Nat → Prop} : ∀ (l : List Nd) {c : List Value}, RowsOf (NdIs F W) l c → NdsIs F W l c
  | [], c, h => by rw [NdsIs]; exact h
  | x :: r, c, h => by
    obtain ⟨c1, c2, rfl, h1, h2⟩ := h
    rw [NdsIs]
    exact ⟨c1, c2, rfl, h1, rows_nds r h2⟩
theorem len5 {cs : List Value} (h : cs.length = 5) : ∃ a b c d e, cs = [a, b, c, d, e] := by
  match cs, h with
  | [a, b, c, d, e], _ => exact ⟨a, b, c, d, e, rfl⟩
theorem len2 {cs : List Value} (h : cs.length = 2) : ∃ a b, cs = [a, b] := by
  match cs, h with
  | [a, b], _ => exact ⟨a, b, rfl⟩
theorem len6 {cs : List Value} (h : cs.length = 6) : ∃ a b, cs = a :: b ∧ b.length = 5 := by
  match cs, h with
  | a :: b, h => exact ⟨a, b, rfl, by simpa using h⟩
theorem open_nd : ∀ (fuel : Nat) {cs : List Value} {x : DataW H × List MemPlace}, DataW.trod enc Tryz.prog W 0 (fun _ => true) held fuel 32 cs = some x → ∃ n, NdIs (fun k => k < W.heap.size) W n cs := by
  intro fuel
  induction fuel using Nat.strongRecOn with
  | ind fuel ih =>
    intro cs x h
    obtain ⟨xs, n, rfl, _, hl, hxl, hf⟩ := DataW.trod_struct Tryz.underlying32 h
    rw [cNd] at hl
    obtain ⟨c0, c1, c2, c3, c4, rfl⟩ := len5 hl
    have hx : xs.length = 5 := hxl
    have f0 := fld hf 0 3 0 1 rfl cInt (by omega)
    have f1 := fld hf 1 4 1 1 rfl cBool (by omega)
    have f2 := fld hf 2 29 2 1 rfl cBytes (by omega)
    have f3 := fld hf 3 23 3 1 rfl cStrs (by omega)
    have f4 := fld hf 4 30 4 1 rfl cNds (by omega)
    simp only [List.drop, List.take] at f0 f1 f2 f3 f4
    obtain ⟨k, hk, _⟩ := DataW.trod_int Tryz.underlying3 f0
    obtain ⟨b, hb, _⟩ := DataW.trod_bool Tryz.underlying4 f1
    obtain ⟨dv, d, hd, hD⟩ := open_bytes f2
    obtain ⟨nv, na, hn, hN⟩ := open_names f3
    obtain ⟨sv, ns, cells, hs, hS, hR⟩ := open_rows (R := NdIs (fun k => k < W.heap.size) W) Tryz.underlying30 cNd (by decide) f4 (fun m c y hm hy => ih m (by omega) hy)
    injection hk with hk
    injection hb with hb
    injection hd with hd
    injection hn with hn
    injection hs with hs
    subst hk hb hd hn hs
    refine ⟨.mk k b d na ns, ?_⟩
    rw [NdIs]
    exact ⟨_, _, _, rfl, hD, hN, cells, hS, rows_nds ns hR⟩
theorem open_pairs {fuel : Nat} {cs : List Value} {x : DataW H × List MemPlace} (h : DataW.trod enc Tryz.prog W 0 (fun _ => true) held fuel 22 cs = some x) : ∃ v b, cs = [v] ∧ SliceIs (fun k => k < W.heap.size) 2 v (List.length b) (pairCells b) W := by
  obtain ⟨v, b, c, e1, e2, e3⟩ := open_rows (R := fun (b : List UInt8 × List UInt8) c => c = [.string (bs b.1), .string (bs b.2)]) Tryz.underlying22 cPair (by decide) h (fun n c y _ hy => by
    obtain ⟨xs, n, rfl, _, hl, hxl, hf⟩ := DataW.trod_struct Tryz.underlying46 hy
    rw [cPair] at hl
    obtain ⟨c0, c1, rfl⟩ := len2 hl
    have hx : xs.length = 2 := hxl
    have f0 := fld hf 0 9 0 1 rfl cStr (by omega)
    have f1 := fld hf 1 9 1 1 rfl cStr (by omega)
    simp only [List.drop, List.take] at f0 f1
    obtain ⟨s, hs, _⟩ := open_bs Tryz.underlying9 f0
    obtain ⟨u, hu, _⟩ := open_bs Tryz.underlying9 f1
    injection hs with hs
    injection hu with hu
    subst hs hu
    exact ⟨(s, u), rfl⟩)
  have := rows_map (f := fun (b : List UInt8 × List UInt8) => [.string (bs b.1), .string (bs b.2)]) (fun a c h => h) b e3
  refine ⟨v, b, e1, ?_⟩
  rwa [this] at e2
theorem rows_ins {F : Nat → Prop} : ∀ (l : List (List UInt8 × Nd)) {c : List Value}, RowsOf (fun x c => ∃ c1, c = .string (bs x.1) :: c1 ∧ NdIs F W x.2 c1) l c → InsIs F W l c
  | [], c, h => h
  | (p, n) :: r, c, h => by
    obtain ⟨c1, c2, rfl, ⟨c3, rfl, h1⟩, h2⟩ := h
    exact ⟨c3, c2, rfl, h1, rows_ins r h2⟩
theorem open_ins {fuel : Nat} {cs : List Value} {x : DataW H × List MemPlace} (h : DataW.trod enc Tryz.prog W 0 (fun _ => true) held fuel 24 cs = some x) :
    ∃ v b cells, cs = [v] ∧ SliceIs (fun k => k < W.heap.size) 6 v (List.length b) cells W ∧ InsIs (fun k => k < W.heap.size) W b cells := by
  obtain ⟨v, b, c, e1, e2, e3⟩ := open_rows (R := fun (x : List UInt8 × Nd) c => ∃ c1, c = .string (bs x.1) :: c1 ∧ NdIs (fun k => k < W.heap.size) W x.2 c1) Tryz.underlying24 cInput (by decide) h (fun n c y _ hy => by
    obtain ⟨xs, n, rfl, _, hl, hxl, hf⟩ := DataW.trod_struct Tryz.underlying43 hy
    rw [cInput] at hl
    obtain ⟨c0, c1, rfl, hl1⟩ := len6 hl
    have hx : xs.length = 2 := hxl
    have f0 := fld hf 0 9 0 1 rfl cStr (by omega)
    have f1 := fld hf 1 32 1 5 rfl cNd (by omega)
    have e0 : List.take 1 (List.drop 0 (c0 :: c1)) = [c0] := rfl
    have e1 : List.take 5 (List.drop 1 (c0 :: c1)) = c1 := List.take_of_length_le (by show c1.length ≤ 5; omega)
    rw [e0] at f0
    rw [e1] at f1
    obtain ⟨s, hs, _⟩ := open_bs Tryz.underlying9 f0
    obtain ⟨m, hm⟩ := open_nd _ f1
    injection hs with hs
    subst hs
    exact ⟨(s, m), c1, rfl, hm⟩)
  exact ⟨v, b, c, e1, e2, rows_ins b e3⟩
end
end Go.Proofs.YtejpkjcjoengbaaGreatDoor
