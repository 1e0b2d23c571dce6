/-
  (*strings.Replacer).build at the four pairs that lex.Show hands it, by walk.
-/
import Derived.Test.YtejpkjcjoengbaaGreatDoorRepA
import Derived.Lib.ConvBytes
import Derived.Lib.SmallJoins
set_option linter.unusedVariables false
set_option linter.unusedSimpArgs false
namespace Go.Proofs.YtejpkjcjoengbaaGreatDoor
open Go.RowKit

theorem z225 : Tryz.zeroCells225 = Array.replicate 257 (.slice none 0 0) := by kernel_rfl
theorem info225 : (Tryz.prog.info? 225).map (·.size) = some 257 := by kernel_rfl
theorem store225 (w : World) (v : Value) (hv : v.oneCell' = true) : (storeCells ⟨w.heap.size, 0, none⟩ (Tryz.zeroCells225.toList.set 256 v)).run Tryz.prog (w.alloc (.cells Tryz.zeroCells225 225)) =
    .ok () (w.alloc (.cells ((Array.replicate 257 (.slice none 0 0)).setIfInBounds 256 v) 225)) := by
  rw [z225]
  have := run_storeCells_new (P := Tryz.prog) w 225 (Array.replicate 257 (.slice none 0 0)) ((Array.replicate 257 (.slice none 0 0)).setIfInBounds 256 v) (by rw [info225]; simp) (by simp) (by
    rw [Array.all_eq_true]
    intro i hi
    by_cases h : i = 256
    · subst h; simp [hv]
    · rw [Array.getElem_setIfInBounds_ne (by simpa using hi) (by omega), Array.getElem_replicate]; rfl)
  rw [Array.toList_setIfInBounds] at this
  exact this
theorem byteStr (W : World) (x : UInt8) : (convert 29 9 (.slice (some ⟨W.heap.size, 0, none⟩) 1 1)).run Tryz.prog (W.alloc (.cells #[.int .u8 (x.toNat : Int)] 5)) = .ok (.string ⟨#[x]⟩) (W.alloc (.cells #[.int .u8 (x.toNat : Int)] 5)) :=
  run_convert_bytes_back (W.alloc (.cells #[.int .u8 (x.toNat : Int)] 5)) _ _ _ ⟨W.heap.size, 0, none⟩ 1 [x] Tryz.underlying29 Tryz.underlying5 Tryz.underlying9 (fun j hj => by
    obtain rfl : j = 0 := by simpa using hj
    exact new_cells1 0 _ rfl)
/-- The table while it is filled: k pairs are laid. -/
def special : List Nat := [9, 10, 34, 92]
def TabInv (B T k : Nat) (w : World) : Prop := ∃ cs v xs, w.heap[T]? = some (.cells cs 225 (0, 0)) ∧ cs.size = 257 ∧ cs[256]? = some v ∧ (∀ j, j < 256 → j ∉ special.take k → cs[j]? = some (.slice none 0 0)) ∧ w.ownsRow B 9 1 v k xs

/-- One pair laid: what the walk asks of the cells, and what then stands. -/
theorem rep_step {B T k o : Nat} {w wr W2 w2 : World} {cs : Array Value} {v v' : Value} {ys : List Value} (s2 : ByteArray) (hTB : B ≤ T) (hT : wr.heap[T]? = some (.cells cs 225 (0, 0))) (hsz : cs.size = 257) (h256 : cs[256]? = some v)
    (hz : ∀ j, j < 256 → j ∉ special.take k → cs[j]? = some (.slice none 0 0)) (ho : o < 256) (hok : o ∉ special.take k) (hsp : special.take (k + 1) = special.take k ++ [o]) (hbn : Below wr.heap.size wr W2) (hgr : W2.grownBy w2 v.ownBlock) (hne : v.ownBlock ≠ some T) (hBv : ∀ j, v.ownBlock = some j → B ≤ j)
    (hown' : w2.ownsRow B 9 1 v' (k + 1) ys) (hbl : Below B w wr) (hBw : B ≤ wr.heap.size) :
    w2.cell? ⟨T, 256, none⟩ = some v ∧ w2.frozen? ⟨T, 256, none⟩ = false ∧ (Lib.bytesWorld (w2.setCell ⟨T, 256, none⟩ v') 5 s2).cell? ⟨T, o, none⟩ = some (.slice none 0 0) ∧ (Lib.bytesWorld (w2.setCell ⟨T, 256, none⟩ v') 5 s2).frozen? ⟨T, o, none⟩ = false ∧
      ∀ sl, TabInv B T (k + 1) ((Lib.bytesWorld (w2.setCell ⟨T, 256, none⟩ v') 5 s2).setCell ⟨T, o, none⟩ sl) ∧ Below B w ((Lib.bytesWorld (w2.setCell ⟨T, 256, none⟩ v') 5 s2).setCell ⟨T, o, none⟩ sl) := by
  have hTl : T < wr.heap.size := (Array.getElem?_eq_some_iff.1 hT).1
  have hT2 : w2.heap[T]? = some (.cells cs 225 (0, 0)) := (hgr.block T (Nat.lt_of_lt_of_le hTl hbn.size) (fun e => hne e.symm)).trans ((hbn.block T hTl).trans hT)
  have hT3 : (w2.setCell ⟨T, 256, none⟩ v').heap[T]? = some (.cells (cs.setIfInBounds 256 v') 225 (0, 0)) := set_same hT2 rfl
  have hTl3 : T < (w2.setCell ⟨T, 256, none⟩ v').heap.size := (Array.getElem?_eq_some_iff.1 hT3).1
  have hbb := Go.Joins.below_bytesWorld _ (w2.setCell ⟨T, 256, none⟩ v') 5 s2 (Nat.le_refl _)
  have hT4 := (hbb.block T hTl3).trans hT3
  have hne' : v'.ownBlock ≠ some T := Lib.ownBlock_ne hown' hT2 (by decide)
  have hc256 := Lib.cell_of_heap hT2 256
  have hco := Lib.cell_of_heap hT4 o
  refine ⟨hc256.trans h256, Lib.frozen_of_heap hT2 256, hco.trans ?_, Lib.frozen_of_heap hT4 o, fun sl => ⟨⟨_, v', ys, set_same hT4 rfl, by simp [hsz], ?_, ?_, ?_⟩, ?_⟩⟩
  · rw [Array.getElem?_setIfInBounds_ne (by omega)]; exact hz o ho hok
  · rw [Array.getElem?_setIfInBounds_ne (by omega), Array.getElem?_setIfInBounds_self_of_lt (by omega)]
  · intro j hj hnj
    rw [hsp] at hnj
    simp at hnj
    rw [Array.getElem?_setIfInBounds_ne (by omega), Array.getElem?_setIfInBounds_ne (by omega)]
    exact hz j hj hnj.1
  · have h3 : (w2.setCell ⟨T, 256, none⟩ v').ownsRow B 9 1 v' (k + 1) ys := hown'.kept (row := some T) ⟨rfl, rfl, rfl, by simp [World.setCell], fun j _ hj => Below.heap_setCell _ _ _ _ (fun e => hj (by simp [e]))⟩ (Or.inr hne')
    exact (own_below h3 hbb).kept (row := some T) ⟨rfl, rfl, rfl, by simp [World.setCell], fun j _ hj => Below.heap_setCell _ _ _ _ (fun e => hj (by simp [e]))⟩ (Or.inr hne')
  · have h1 : Below B w W2 := hbl.trans (hbn.mono hBw)
    have h2 : Below B w w2 := h1.grown hgr (Nat.le_trans hBw hbn.size) hBv
    have h3 : Below B w (w2.setCell ⟨T, 256, none⟩ v') := h2.setCell hTB _
    have h4 : Below B w (Lib.bytesWorld (w2.setCell ⟨T, 256, none⟩ v') 5 s2) := h3.trans (hbb.mono (by omega))
    exact h4.setCell hTB _

set_option maxHeartbeats 1000000 in
set_option maxRecDepth 100000 in
theorem rep_build {w : World} (R g c : Nat) (d r0 : Value) (hR : w.heap[R]? = some (.cells #[.int .u32 0, d, .int .u32 0, r0, .slice (some ⟨g, 0, none⟩) 8 c] 182 (0, 0)))
    (hg : ∀ j x, (strCells quoteRow)[j]? = some x → w.cell? ⟨g, j, none⟩ = some x) :
    Calls Tryz.prog 136 #[.pointer (some ⟨R, 0, none⟩)] w fun e w' => ∃ T, e = .returned (.iface 226 (.pointer (some ⟨T, 0, none⟩))) ∧ w.heap.size ≤ T ∧ TabInv w.heap.size T 4 w' ∧ Below w.heap.size w w' := by
  have r4 := Lib.cell_of_heap hR 4
  simp at r4
  have c0 := hg 0 _ rfl
  have c1 := hg 1 _ rfl
  have c2 := hg 2 _ rfl
  have c3 := hg 3 _ rfl
  have c4 := hg 4 _ rfl
  have c5 := hg 5 _ rfl
  have c6 := hg 6 _ rfl
  have c7 := hg 7 _ rfl
  obtain ⟨i0, hi, hz0, hz1, hz2⟩ := info_parts infoStr
  have he : ∀ w : World, (binOp .eql 29 (.slice none 0 0) (.slice none 0 0)).run Tryz.prog w = .ok (.bool true) w := fun _ => rfl
  have kc := fun (W : World) (s : ByteArray) => Lib.run_convert_string_bytes (P := Tryz.prog) W 9 29 5 s Tryz.underlying9 Tryz.underlying29 Tryz.underlying5
  have kb := byteStr
  have hst := fun (w0 : World) (A : Addr) (n c : Nat) => store225 w0 (.slice (some A) n c) rfl
  go_enter Tryz.func136, Tryz.ntmps136
  go_wp2
  go_loopw [4, 5] (fun t i wr => ∃ k : Nat, k ≤ 4 ∧ i = .int .i64 (2 * k) ∧ t = .bool (k == 0) ∧ w = wr) (fun t i wr => 4 - (intOf i).toNat / 2)
  case atStart => exact ⟨0, by omega, rfl, rfl, rfl⟩
  case round =>
    obtain ⟨k, hk, rfl, rfl, rfl⟩ := hrel
    obtain rfl | rfl | rfl | rfl | rfl : k = 0 ∨ k = 1 ∨ k = 2 ∨ k = 3 ∨ k = 4 := by omega
    · go_wp2
      go_roundw
      case rel => exact ⟨1, by omega, by go_num, (by first | rfl | trivial), (by first | rfl | trivial)⟩
      case measure => simp [intOf]
    · go_wp2
      go_roundw
      case rel => exact ⟨2, by omega, by go_num, (by first | rfl | trivial), (by first | rfl | trivial)⟩
      case measure => simp [intOf]
    · go_wp2
      go_roundw
      case rel => exact ⟨3, by omega, by go_num, (by first | rfl | trivial), (by first | rfl | trivial)⟩
      case measure => simp [intOf]
    · go_wp2
      go_roundw
      case rel => exact ⟨4, by omega, by go_num, (by first | rfl | trivial), (by first | rfl | trivial)⟩
      case measure => simp [intOf]
    · go_wp2_with (at_make; refine wpList_make_own _ rfl _ _ 23 rfl w.heap.size 9 i0 (.string ⟨#[]⟩) 1 Tryz.underlying23 hi hz0 hz1 .i64 .i64 _ 4 rfl rfl rfl (by rw [hz2]; omega) (by unfold maxLen; omega) (Nat.le_refl _) ?_; intro w0 hown0 hgrow0)
      have hb0 : Below w.heap.size w w0 := (Below.refl w.heap.size w).grown hgrow0 (Nat.le_refl _) (by simp)
      have hT0 := heap_alloc_new w0 (.cells ((Array.replicate 257 (.slice none 0 0)).setIfInBounds 256 (.slice (some ⟨w.heap.size, 0, none⟩) 0 4)) 225)
      have hb1 : Below w0.heap.size w0 (w0.alloc (.cells ((Array.replicate 257 (.slice none 0 0)).setIfInBounds 256 (.slice (some ⟨w.heap.size, 0, none⟩) 0 4)) 225)) := (Below.refl w0.heap.size w0).alloc (Nat.le_refl _) _
      have hI : TabInv w.heap.size w0.heap.size 0 (w0.alloc (.cells ((Array.replicate 257 (.slice none 0 0)).setIfInBounds 256 (.slice (some ⟨w.heap.size, 0, none⟩) 0 4)) 225)) :=
        ⟨_, _, [], hT0, by simp, by simp, fun j hj _ => by rw [Array.getElem?_setIfInBounds_ne (by omega)]; simp [Array.getElem?_replicate]; omega, own_below hown0 hb1⟩
      have HI := Lib.hid (And.intro hI (hb0.trans (hb1.mono hb0.size)))
      clear hown0 hgrow0 hT0 hb1 hI
      generalize hW : (w0.alloc (.cells ((Array.replicate 257 (.slice none 0 0)).setIfInBounds 256 (.slice (some ⟨w.heap.size, 0, none⟩) 0 4)) 225)) = W at HI ⊢
      have hTB : w.heap.size ≤ w0.heap.size := hb0.size
      generalize hT : w0.heap.size = T at HI hTB ⊢
      clear hW hb0 hT
      go_loopw [12] (fun i wr => ∃ k : Nat, k ≤ 4 ∧ i = .int .i64 (6 - 2 * k) ∧ TabInv w.heap.size T k wr ∧ Below w.heap.size w wr) (fun i wr => (intOf i + 2).toNat)
      case atStart => exact ⟨0, by omega, rfl, HI.out.1, HI.out.2⟩
      case round =>
        obtain ⟨k, hk, rfl, ⟨cs, v, xs, hT, hsz, h256, hz, hown⟩, hbl⟩ := hrel
        obtain ⟨A, cp, rfl⟩ := own_slice hown
        have hgl : g < w.heap.size := by
          have := c0; unfold World.cell? at this; rcases Nat.lt_or_ge g w.heap.size with h | h
          · exact h
          · simp [Array.getElem?_eq_none h] at this
        have d0 : wr.cell? ⟨g, 0, none⟩ = some (.string ⟨#[92]⟩) := (hbl.cell (p := ⟨g, 0, none⟩) hgl).trans c0
        have d1 : wr.cell? ⟨g, 1, none⟩ = some (.string ⟨#[92, 92]⟩) := (hbl.cell (p := ⟨g, 1, none⟩) hgl).trans c1
        have d2 : wr.cell? ⟨g, 2, none⟩ = some (.string ⟨#[34]⟩) := (hbl.cell (p := ⟨g, 2, none⟩) hgl).trans c2
        have d3 : wr.cell? ⟨g, 3, none⟩ = some (.string ⟨#[92, 34]⟩) := (hbl.cell (p := ⟨g, 3, none⟩) hgl).trans c3
        have d4 : wr.cell? ⟨g, 4, none⟩ = some (.string ⟨#[10]⟩) := (hbl.cell (p := ⟨g, 4, none⟩) hgl).trans c4
        have d5 : wr.cell? ⟨g, 5, none⟩ = some (.string ⟨#[92, 110]⟩) := (hbl.cell (p := ⟨g, 5, none⟩) hgl).trans c5
        have d6 : wr.cell? ⟨g, 6, none⟩ = some (.string ⟨#[9]⟩) := (hbl.cell (p := ⟨g, 6, none⟩) hgl).trans c6
        have d7 : wr.cell? ⟨g, 7, none⟩ = some (.string ⟨#[92, 116]⟩) := (hbl.cell (p := ⟨g, 7, none⟩) hgl).trans c7
        have n256 := Lib.cell_of_heap hT 256
        have f256 := Lib.frozen_of_heap hT 256
        rw [h256] at n256
        clear c0 c1 c2 c3 c4 c5 c6 c7 hg hR r4
        obtain rfl | rfl | rfl | rfl | rfl : k = 0 ∨ k = 1 ∨ k = 2 ∨ k = 3 ∨ k = 4 := by omega
        · have nO : wr.cell? ⟨T, ((⟨#[9]⟩ : ByteArray)[0]'(by decide)).toNat, none⟩ = some (.slice none 0 0) := (Lib.cell_of_heap hT 9).trans (hz 9 (by decide) (by decide))
          have hbn : Below wr.heap.size wr ((wr.alloc (.cells #[.int .u8 (((⟨#[9]⟩ : ByteArray)[0]'(by decide)).toNat : Int)] 5)).alloc (.cells #[.string ⟨#[((⟨#[9]⟩ : ByteArray)[0]'(by decide))]⟩] 9)) := ((Below.refl wr.heap.size wr).alloc (Nat.le_refl _) _).alloc (by simp) _
          go_wp2_with (at_builtin; (refine wpList_append_new rfl _ _ 23 rfl w.heap.size 9 i0 (.string ⟨#[]⟩) 1 16 Tryz.underlying23 hi hz0 hz1 hz2 rfl (by decide) (.slice A 0 cp) 0 xs rfl (own_below hown hbn) ⟨wr.heap.size + 1, 0, none⟩ 1 1 [.string ⟨#[((⟨#[9]⟩ : ByteArray)[0]'(by decide))]⟩] rfl rfl ?c1 ?c2 (by decide) ?c3 ?c4 ?c5 ?_))
          case c1 => exact fun j u hu => new_cells2 j u hu
          case c2 => intro u hu; simp at hu; subst hu; rfl
          case c3 => unfold maxLen; omega
          case c4 => omega
          case c5 => have := hbl.size; simp; omega
          intro v' w2 hown' hgrow hfr
          obtain ⟨n256', f256', nO', fO', hfin⟩ := rep_step (B := w.heap.size) (T := T) (k := 0) (o := ((⟨#[9]⟩ : ByteArray)[0]'(by decide)).toNat) (w := w) ⟨#[92, 116]⟩ hTB hT hsz h256 hz (by decide) (by decide) (by decide) hbn hgrow (Lib.ownBlock_ne hown hT (by decide)) (fun j hj => (hown.lt j hj).1) hown' hbl hbl.size
          obtain ⟨A', cp', rfl⟩ := own_slice hown'
          have HF := Lib.hid hfin
          clear hfin hown' hgrow hfr hbn hown hT hz nO n256 f256 d0 d1 d2 d3 d4 d5 d6 d7
          go_wp2
          go_roundw
          case rel => exact ⟨1, by omega, by go_num, (HF.out _).1, (HF.out _).2⟩
          case measure => simp [intOf]
        · have nO : wr.cell? ⟨T, ((⟨#[10]⟩ : ByteArray)[0]'(by decide)).toNat, none⟩ = some (.slice none 0 0) := (Lib.cell_of_heap hT 10).trans (hz 10 (by decide) (by decide))
          have hbn : Below wr.heap.size wr ((wr.alloc (.cells #[.int .u8 (((⟨#[10]⟩ : ByteArray)[0]'(by decide)).toNat : Int)] 5)).alloc (.cells #[.string ⟨#[((⟨#[10]⟩ : ByteArray)[0]'(by decide))]⟩] 9)) := ((Below.refl wr.heap.size wr).alloc (Nat.le_refl _) _).alloc (by simp) _
          go_wp2_with (at_builtin; (refine wpList_append_new rfl _ _ 23 rfl w.heap.size 9 i0 (.string ⟨#[]⟩) 1 16 Tryz.underlying23 hi hz0 hz1 hz2 rfl (by decide) (.slice A 1 cp) 1 xs rfl (own_below hown hbn) ⟨wr.heap.size + 1, 0, none⟩ 1 1 [.string ⟨#[((⟨#[10]⟩ : ByteArray)[0]'(by decide))]⟩] rfl rfl ?c1 ?c2 (by decide) ?c3 ?c4 ?c5 ?_))
          case c1 => exact fun j u hu => new_cells2 j u hu
          case c2 => intro u hu; simp at hu; subst hu; rfl
          case c3 => unfold maxLen; omega
          case c4 => omega
          case c5 => have := hbl.size; simp; omega
          intro v' w2 hown' hgrow hfr
          obtain ⟨n256', f256', nO', fO', hfin⟩ := rep_step (B := w.heap.size) (T := T) (k := 1) (o := ((⟨#[10]⟩ : ByteArray)[0]'(by decide)).toNat) (w := w) ⟨#[92, 110]⟩ hTB hT hsz h256 hz (by decide) (by decide) (by decide) hbn hgrow (Lib.ownBlock_ne hown hT (by decide)) (fun j hj => (hown.lt j hj).1) hown' hbl hbl.size
          obtain ⟨A', cp', rfl⟩ := own_slice hown'
          have HF := Lib.hid hfin
          clear hfin hown' hgrow hfr hbn hown hT hz nO n256 f256 d0 d1 d2 d3 d4 d5 d6 d7
          go_wp2
          go_roundw
          case rel => exact ⟨2, by omega, by go_num, (HF.out _).1, (HF.out _).2⟩
          case measure => simp [intOf]
        · have nO : wr.cell? ⟨T, ((⟨#[34]⟩ : ByteArray)[0]'(by decide)).toNat, none⟩ = some (.slice none 0 0) := (Lib.cell_of_heap hT 34).trans (hz 34 (by decide) (by decide))
          have hbn : Below wr.heap.size wr ((wr.alloc (.cells #[.int .u8 (((⟨#[34]⟩ : ByteArray)[0]'(by decide)).toNat : Int)] 5)).alloc (.cells #[.string ⟨#[((⟨#[34]⟩ : ByteArray)[0]'(by decide))]⟩] 9)) := ((Below.refl wr.heap.size wr).alloc (Nat.le_refl _) _).alloc (by simp) _
          go_wp2_with (at_builtin; (refine wpList_append_new rfl _ _ 23 rfl w.heap.size 9 i0 (.string ⟨#[]⟩) 1 16 Tryz.underlying23 hi hz0 hz1 hz2 rfl (by decide) (.slice A 2 cp) 2 xs rfl (own_below hown hbn) ⟨wr.heap.size + 1, 0, none⟩ 1 1 [.string ⟨#[((⟨#[34]⟩ : ByteArray)[0]'(by decide))]⟩] rfl rfl ?c1 ?c2 (by decide) ?c3 ?c4 ?c5 ?_))
          case c1 => exact fun j u hu => new_cells2 j u hu
          case c2 => intro u hu; simp at hu; subst hu; rfl
          case c3 => unfold maxLen; omega
          case c4 => omega
          case c5 => have := hbl.size; simp; omega
          intro v' w2 hown' hgrow hfr
          obtain ⟨n256', f256', nO', fO', hfin⟩ := rep_step (B := w.heap.size) (T := T) (k := 2) (o := ((⟨#[34]⟩ : ByteArray)[0]'(by decide)).toNat) (w := w) ⟨#[92, 34]⟩ hTB hT hsz h256 hz (by decide) (by decide) (by decide) hbn hgrow (Lib.ownBlock_ne hown hT (by decide)) (fun j hj => (hown.lt j hj).1) hown' hbl hbl.size
          obtain ⟨A', cp', rfl⟩ := own_slice hown'
          have HF := Lib.hid hfin
          clear hfin hown' hgrow hfr hbn hown hT hz nO n256 f256 d0 d1 d2 d3 d4 d5 d6 d7
          go_wp2
          go_roundw
          case rel => exact ⟨3, by omega, by go_num, (HF.out _).1, (HF.out _).2⟩
          case measure => simp [intOf]
        · have nO : wr.cell? ⟨T, ((⟨#[92]⟩ : ByteArray)[0]'(by decide)).toNat, none⟩ = some (.slice none 0 0) := (Lib.cell_of_heap hT 92).trans (hz 92 (by decide) (by decide))
          have hbn : Below wr.heap.size wr ((wr.alloc (.cells #[.int .u8 (((⟨#[92]⟩ : ByteArray)[0]'(by decide)).toNat : Int)] 5)).alloc (.cells #[.string ⟨#[((⟨#[92]⟩ : ByteArray)[0]'(by decide))]⟩] 9)) := ((Below.refl wr.heap.size wr).alloc (Nat.le_refl _) _).alloc (by simp) _
          go_wp2_with (at_builtin; (refine wpList_append_new rfl _ _ 23 rfl w.heap.size 9 i0 (.string ⟨#[]⟩) 1 16 Tryz.underlying23 hi hz0 hz1 hz2 rfl (by decide) (.slice A 3 cp) 3 xs rfl (own_below hown hbn) ⟨wr.heap.size + 1, 0, none⟩ 1 1 [.string ⟨#[((⟨#[92]⟩ : ByteArray)[0]'(by decide))]⟩] rfl rfl ?c1 ?c2 (by decide) ?c3 ?c4 ?c5 ?_))
          case c1 => exact fun j u hu => new_cells2 j u hu
          case c2 => intro u hu; simp at hu; subst hu; rfl
          case c3 => unfold maxLen; omega
          case c4 => omega
          case c5 => have := hbl.size; simp; omega
          intro v' w2 hown' hgrow hfr
          obtain ⟨n256', f256', nO', fO', hfin⟩ := rep_step (B := w.heap.size) (T := T) (k := 3) (o := ((⟨#[92]⟩ : ByteArray)[0]'(by decide)).toNat) (w := w) ⟨#[92, 92]⟩ hTB hT hsz h256 hz (by decide) (by decide) (by decide) hbn hgrow (Lib.ownBlock_ne hown hT (by decide)) (fun j hj => (hown.lt j hj).1) hown' hbl hbl.size
          obtain ⟨A', cp', rfl⟩ := own_slice hown'
          have HF := Lib.hid hfin
          clear hfin hown' hgrow hfr hbn hown hT hz nO n256 f256 d0 d1 d2 d3 d4 d5 d6 d7
          go_wp2
          go_roundw
          case rel => exact ⟨4, by omega, by go_num, (HF.out _).1, (HF.out _).2⟩
          case measure => simp [intOf]
        · have HF := Lib.hid (show TabInv w.heap.size T 4 wr from ⟨cs, _, xs, hT, hsz, h256, hz, hown⟩)
          clear hown hT hz n256 f256 d0 d1 d2 d3 d4 d5 d6 d7
          go_wp2
          go_ret
          exact ⟨T, rfl, hTB, HF.out, hbl⟩
end Go.Proofs.YtejpkjcjoengbaaGreatDoor
