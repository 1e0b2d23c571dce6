/-
  lex.Show of one text that needs no mark, by walk.
-/
import Derived.Test.YtejpkjcjoengbaaGreatDoorVmB
import Derived.Laws.Pointers
import Derived.Lib.ConvBytes
import Derived.Lib.SmallJoins
import Derived.Tactics
import Derived.Tactics2
import Derived.Defers
import Derived.Laws.LoneSync
import Derived.RegionTactic
import Derived.RegionCalls
import Derived.ChangeAlike
import Derived.Test.YtejpkjcjoengbaaGreatDoorVmF
set_option linter.unusedVariables false
set_option linter.unusedSimpArgs false
namespace Go.Proofs.YtejpkjcjoengbaaGreatDoor
open Go.RowKit

def quoteRow : List (List UInt8) := [[92], [92, 92], [34], [92, 34], [10], [92, 110], [9], [92, 116]]

/-- A Replacer whose table is not made yet. -/
def RepNew (B : Nat) (R : Nat) (w : World) : Prop := B ≤ R ∧ ∃ v, w.heap[R]? = some (.cells #[.int .u32 0, .int .i32 0, .int .u32 0, .nilIface, v] 182 (0, 0)) ∧ w.ownsRow B 9 1 v 8 (strCells quoteRow)

set_option maxHeartbeats 1000000 in
set_option maxRecDepth 100000 in
theorem newReplacer {w : World} (g c : Nat) (hg : w.heap[g]? = some (.cells (strCells quoteRow).toArray 9 (0, 0))) :
    Calls Tryz.prog 74 #[.slice (some ⟨g, 0, none⟩) 8 c] w fun e w' => ∃ R, e = .returned (.pointer (some ⟨R, 0, none⟩)) ∧ RepNew w.heap.size R w' ∧ Below w.heap.size w w' := by
  obtain ⟨i0, hi, hz0, hz1, hz2⟩ := info_parts infoStr
  have HG := Lib.hid hg
  clear hg
  go_enter Tryz.func74, Tryz.ntmps74
  go_wp2_with (at_builtin; (refine wpList_append_new rfl _ _ 23 rfl w.heap.size 9 i0 (.string ⟨#[]⟩) 1 16 Tryz.underlying23 hi hz0 hz1 hz2 rfl (by decide) (.slice none 0 0) 0 [] rfl ?c0 ⟨g, 0, none⟩ 8 c (strCells quoteRow) rfl rfl ?c1 ?c2 (by decide) ?c3 ?c4 ?c5 ?_))
  case c0 => exact ⟨by simp, .inl ⟨rfl, rfl⟩⟩
  case c1 => exact fun j u hu => cell_at HG.out j u (by simpa using hu)
  case c2 => intro u hu; simp [strCells, quoteRow] at hu; rcases hu with rfl | rfl | rfl | rfl | rfl | rfl | rfl | rfl <;> rfl
  case c3 => unfold maxLen; omega
  case c4 => omega
  case c5 => exact Nat.le_refl _
  intro v' w1 hown hgr hfr
  have hbl : Below w.heap.size w w1 := (Below.refl w.heap.size w).grown hgr (Nat.le_refl _) (by simp [Value.ownBlock])
  have HO := Lib.hid hown
  obtain ⟨A, cp, rfl⟩ := own_slice hown
  clear hown hgr hfr
  go_wp2
  go_ret
  have hbn : Below w1.heap.size w1 (w1.alloc (.cells #[.int .u32 0, .int .i32 0, .int .u32 0, .nilIface, .slice A 8 cp] 182)) := (Below.refl w1.heap.size w1).alloc (Nat.le_refl _) _
  exact ⟨w1.heap.size, rfl, ⟨hbl.size, _, heap_alloc_new w1 _, own_below HO.out hbn⟩, hbl.trans (hbn.mono hbl.size)⟩
end Go.Proofs.YtejpkjcjoengbaaGreatDoor
set_option linter.unusedVariables false
set_option linter.unusedSimpArgs false
namespace Go.Proofs.YtejpkjcjoengbaaGreatDoor
open Go.RowKit

theorem z225 : Tryz.zeroCells225 = Array.replicate 257 (.slice none 0 0) := by kernel_rfl
theorem info225 : (Tryz.prog.info? 225).map (·.size) = some 257 := by kernel_rfl
theorem store225 (w : World) (v : Value) (hv : v.oneCell' = true) : (storeCells ⟨w.heap.size, 0, none⟩ (Tryz.zeroCells225.toList.set 256 v)).run Tryz.prog (w.alloc (.cells Tryz.zeroCells225 225)) =
    .ok () (w.alloc (.cells ((Array.replicate 257 (.slice none 0 0)).setIfInBounds 256 v) 225)) := by
  rw [z225]
  have := run_storeCells_new (P := Tryz.prog) w 225 (Array.replicate 257 (.slice none 0 0)) ((Array.replicate 257 (.slice none 0 0)).setIfInBounds 256 v) (by rw [info225]; simp) (by simp) (by
    rw [Array.all_eq_true]
    intro i hi
    by_cases h : i = 256
    · subst h; simp [hv]
    · rw [Array.getElem_setIfInBounds_ne (by simpa using hi) (by omega), Array.getElem_replicate]; rfl)
  rw [Array.toList_setIfInBounds] at this
  exact this
theorem byteStr (W : World) (x : UInt8) : (convert 29 9 (.slice (some ⟨W.heap.size, 0, none⟩) 1 1)).run Tryz.prog (W.alloc (.cells #[.int .u8 (x.toNat : Int)] 5)) = .ok (.string ⟨#[x]⟩) (W.alloc (.cells #[.int .u8 (x.toNat : Int)] 5)) :=
  run_convert_bytes_back (W.alloc (.cells #[.int .u8 (x.toNat : Int)] 5)) _ _ _ ⟨W.heap.size, 0, none⟩ 1 [x] Tryz.underlying29 Tryz.underlying5 Tryz.underlying9 (fun j hj => by
    obtain rfl : j = 0 := by simpa using hj
    exact new_cells1 0 _ rfl)
/-- The table while it is filled: k pairs are laid. -/
def special : List Nat := [9, 10, 34, 92]
def TabInv (B T k : Nat) (w : World) : Prop := ∃ cs v xs, w.heap[T]? = some (.cells cs 225 (0, 0)) ∧ cs.size = 257 ∧ cs[256]? = some v ∧ (∀ j, j < 256 → j ∉ special.take k → cs[j]? = some (.slice none 0 0)) ∧ w.ownsRow B 9 1 v k xs

/-- One pair laid: what the walk asks of the cells, and what then stands. -/
theorem rep_step {B T k o : Nat} {w wr W2 w2 : World} {cs : Array Value} {v v' : Value} {ys : List Value} (s2 : ByteArray) (hTB : B ≤ T) (hT : wr.heap[T]? = some (.cells cs 225 (0, 0))) (hsz : cs.size = 257) (h256 : cs[256]? = some v)
    (hz : ∀ j, j < 256 → j ∉ special.take k → cs[j]? = some (.slice none 0 0)) (ho : o < 256) (hok : o ∉ special.take k) (hsp : special.take (k + 1) = special.take k ++ [o]) (hbn : Below wr.heap.size wr W2) (hgr : W2.grownBy w2 v.ownBlock) (hne : v.ownBlock ≠ some T) (hBv : ∀ j, v.ownBlock = some j → B ≤ j)
    (hown' : w2.ownsRow B 9 1 v' (k + 1) ys) (hbl : Below B w wr) (hBw : B ≤ wr.heap.size) :
    w2.cell? ⟨T, 256, none⟩ = some v ∧ w2.frozen? ⟨T, 256, none⟩ = false ∧ (Lib.bytesWorld (w2.setCell ⟨T, 256, none⟩ v') 5 s2).cell? ⟨T, o, none⟩ = some (.slice none 0 0) ∧ (Lib.bytesWorld (w2.setCell ⟨T, 256, none⟩ v') 5 s2).frozen? ⟨T, o, none⟩ = false ∧
      ∀ sl, TabInv B T (k + 1) ((Lib.bytesWorld (w2.setCell ⟨T, 256, none⟩ v') 5 s2).setCell ⟨T, o, none⟩ sl) ∧ Below B w ((Lib.bytesWorld (w2.setCell ⟨T, 256, none⟩ v') 5 s2).setCell ⟨T, o, none⟩ sl) := by
  have hTl : T < wr.heap.size := (Array.getElem?_eq_some_iff.1 hT).1
  have hT2 : w2.heap[T]? = some (.cells cs 225 (0, 0)) := (hgr.block T (Nat.lt_of_lt_of_le hTl hbn.size) (fun e => hne e.symm)).trans ((hbn.block T hTl).trans hT)
  have hT3 : (w2.setCell ⟨T, 256, none⟩ v').heap[T]? = some (.cells (cs.setIfInBounds 256 v') 225 (0, 0)) := set_same hT2 rfl
  have hTl3 : T < (w2.setCell ⟨T, 256, none⟩ v').heap.size := (Array.getElem?_eq_some_iff.1 hT3).1
  have hbb := Go.Joins.below_bytesWorld _ (w2.setCell ⟨T, 256, none⟩ v') 5 s2 (Nat.le_refl _)
  have hT4 := (hbb.block T hTl3).trans hT3
  have hne' : v'.ownBlock ≠ some T := Lib.ownBlock_ne hown' hT2 (by decide)
  have hc256 := Lib.cell_of_heap hT2 256
  have hco := Lib.cell_of_heap hT4 o
  refine ⟨hc256.trans h256, Lib.frozen_of_heap hT2 256, hco.trans ?_, Lib.frozen_of_heap hT4 o, fun sl => ⟨⟨_, v', ys, set_same hT4 rfl, by simp [hsz], ?_, ?_, ?_⟩, ?_⟩⟩
  · rw [Array.getElem?_setIfInBounds_ne (by omega)]; exact hz o ho hok
  · rw [Array.getElem?_setIfInBounds_ne (by omega), Array.getElem?_setIfInBounds_self_of_lt (by omega)]
  · intro j hj hnj
    rw [hsp] at hnj
    simp at hnj
    rw [Array.getElem?_setIfInBounds_ne (by omega), Array.getElem?_setIfInBounds_ne (by omega)]
    exact hz j hj hnj.1
  · have h3 : (w2.setCell ⟨T, 256, none⟩ v').ownsRow B 9 1 v' (k + 1) ys := hown'.kept (row := some T) ⟨rfl, rfl, rfl, by simp [World.setCell], fun j _ hj => Below.heap_setCell _ _ _ _ (fun e => hj (by simp [e]))⟩ (Or.inr hne')
    exact (own_below h3 hbb).kept (row := some T) ⟨rfl, rfl, rfl, by simp [World.setCell], fun j _ hj => Below.heap_setCell _ _ _ _ (fun e => hj (by simp [e]))⟩ (Or.inr hne')
  · have h1 : Below B w W2 := hbl.trans (hbn.mono hBw)
    have h2 : Below B w w2 := h1.grown hgr (Nat.le_trans hBw hbn.size) hBv
    have h3 : Below B w (w2.setCell ⟨T, 256, none⟩ v') := h2.setCell hTB _
    have h4 : Below B w (Lib.bytesWorld (w2.setCell ⟨T, 256, none⟩ v') 5 s2) := h3.trans (hbb.mono (by omega))
    exact h4.setCell hTB _

set_option maxHeartbeats 1000000 in
set_option maxRecDepth 100000 in
theorem rep_build {w : World} (R g c : Nat) (d r0 : Value) (hR : w.heap[R]? = some (.cells #[.int .u32 0, d, .int .u32 0, r0, .slice (some ⟨g, 0, none⟩) 8 c] 182 (0, 0)))
    (hg : ∀ j x, (strCells quoteRow)[j]? = some x → w.cell? ⟨g, j, none⟩ = some x) :
    Calls Tryz.prog 136 #[.pointer (some ⟨R, 0, none⟩)] w fun e w' => ∃ T, e = .returned (.iface 226 (.pointer (some ⟨T, 0, none⟩))) ∧ w.heap.size ≤ T ∧ TabInv w.heap.size T 4 w' ∧ Below w.heap.size w w' := by
  have r4 := Lib.cell_of_heap hR 4
  simp at r4
  have c0 := hg 0 _ rfl
  have c1 := hg 1 _ rfl
  have c2 := hg 2 _ rfl
  have c3 := hg 3 _ rfl
  have c4 := hg 4 _ rfl
  have c5 := hg 5 _ rfl
  have c6 := hg 6 _ rfl
  have c7 := hg 7 _ rfl
  obtain ⟨i0, hi, hz0, hz1, hz2⟩ := info_parts infoStr
  have he : ∀ w : World, (binOp .eql 29 (.slice none 0 0) (.slice none 0 0)).run Tryz.prog w = .ok (.bool true) w := fun _ => rfl
  have kc := fun (W : World) (s : ByteArray) => Lib.run_convert_string_bytes (P := Tryz.prog) W 9 29 5 s Tryz.underlying9 Tryz.underlying29 Tryz.underlying5
  have kb := byteStr
  have hst := fun (w0 : World) (A : Addr) (n c : Nat) => store225 w0 (.slice (some A) n c) rfl
  go_enter Tryz.func136, Tryz.ntmps136
  go_wp2
  go_loopw [4, 5] (fun t i wr => ∃ k : Nat, k ≤ 4 ∧ i = .int .i64 (2 * k) ∧ t = .bool (k == 0) ∧ w = wr) (fun t i wr => 4 - (intOf i).toNat / 2)
  case atStart => exact ⟨0, by omega, rfl, rfl, rfl⟩
  case round =>
    obtain ⟨k, hk, rfl, rfl, rfl⟩ := hrel
    obtain rfl | rfl | rfl | rfl | rfl : k = 0 ∨ k = 1 ∨ k = 2 ∨ k = 3 ∨ k = 4 := by omega
    · go_wp2
      go_roundw
      case rel => exact ⟨1, by omega, by go_num, (by first | rfl | trivial), (by first | rfl | trivial)⟩
      case measure => simp [intOf]
    · go_wp2
      go_roundw
      case rel => exact ⟨2, by omega, by go_num, (by first | rfl | trivial), (by first | rfl | trivial)⟩
      case measure => simp [intOf]
    · go_wp2
      go_roundw
      case rel => exact ⟨3, by omega, by go_num, (by first | rfl | trivial), (by first | rfl | trivial)⟩
      case measure => simp [intOf]
    · go_wp2
      go_roundw
      case rel => exact ⟨4, by omega, by go_num, (by first | rfl | trivial), (by first | rfl | trivial)⟩
      case measure => simp [intOf]
    · go_wp2_with (at_make; refine wpList_make_own _ rfl _ _ 23 rfl w.heap.size 9 i0 (.string ⟨#[]⟩) 1 Tryz.underlying23 hi hz0 hz1 .i64 .i64 _ 4 rfl rfl rfl (by rw [hz2]; omega) (by unfold maxLen; omega) (Nat.le_refl _) ?_; intro w0 hown0 hgrow0)
      have hb0 : Below w.heap.size w w0 := (Below.refl w.heap.size w).grown hgrow0 (Nat.le_refl _) (by simp)
      have hT0 := heap_alloc_new w0 (.cells ((Array.replicate 257 (.slice none 0 0)).setIfInBounds 256 (.slice (some ⟨w.heap.size, 0, none⟩) 0 4)) 225)
      have hb1 : Below w0.heap.size w0 (w0.alloc (.cells ((Array.replicate 257 (.slice none 0 0)).setIfInBounds 256 (.slice (some ⟨w.heap.size, 0, none⟩) 0 4)) 225)) := (Below.refl w0.heap.size w0).alloc (Nat.le_refl _) _
      have hI : TabInv w.heap.size w0.heap.size 0 (w0.alloc (.cells ((Array.replicate 257 (.slice none 0 0)).setIfInBounds 256 (.slice (some ⟨w.heap.size, 0, none⟩) 0 4)) 225)) :=
        ⟨_, _, [], hT0, by simp, by simp, fun j hj _ => by rw [Array.getElem?_setIfInBounds_ne (by omega)]; simp [Array.getElem?_replicate]; omega, own_below hown0 hb1⟩
      have HI := Lib.hid (And.intro hI (hb0.trans (hb1.mono hb0.size)))
      clear hown0 hgrow0 hT0 hb1 hI
      generalize hW : (w0.alloc (.cells ((Array.replicate 257 (.slice none 0 0)).setIfInBounds 256 (.slice (some ⟨w.heap.size, 0, none⟩) 0 4)) 225)) = W at HI ⊢
      have hTB : w.heap.size ≤ w0.heap.size := hb0.size
      generalize hT : w0.heap.size = T at HI hTB ⊢
      clear hW hb0 hT
      go_loopw [12] (fun i wr => ∃ k : Nat, k ≤ 4 ∧ i = .int .i64 (6 - 2 * k) ∧ TabInv w.heap.size T k wr ∧ Below w.heap.size w wr) (fun i wr => (intOf i + 2).toNat)
      case atStart => exact ⟨0, by omega, rfl, HI.out.1, HI.out.2⟩
      case round =>
        obtain ⟨k, hk, rfl, ⟨cs, v, xs, hT, hsz, h256, hz, hown⟩, hbl⟩ := hrel
        obtain ⟨A, cp, rfl⟩ := own_slice hown
        have hgl : g < w.heap.size := by
          have := c0; unfold World.cell? at this; rcases Nat.lt_or_ge g w.heap.size with h | h
          · exact h
          · simp [Array.getElem?_eq_none h] at this
        have d0 : wr.cell? ⟨g, 0, none⟩ = some (.string ⟨#[92]⟩) := (hbl.cell (p := ⟨g, 0, none⟩) hgl).trans c0
        have d1 : wr.cell? ⟨g, 1, none⟩ = some (.string ⟨#[92, 92]⟩) := (hbl.cell (p := ⟨g, 1, none⟩) hgl).trans c1
        have d2 : wr.cell? ⟨g, 2, none⟩ = some (.string ⟨#[34]⟩) := (hbl.cell (p := ⟨g, 2, none⟩) hgl).trans c2
        have d3 : wr.cell? ⟨g, 3, none⟩ = some (.string ⟨#[92, 34]⟩) := (hbl.cell (p := ⟨g, 3, none⟩) hgl).trans c3
        have d4 : wr.cell? ⟨g, 4, none⟩ = some (.string ⟨#[10]⟩) := (hbl.cell (p := ⟨g, 4, none⟩) hgl).trans c4
        have d5 : wr.cell? ⟨g, 5, none⟩ = some (.string ⟨#[92, 110]⟩) := (hbl.cell (p := ⟨g, 5, none⟩) hgl).trans c5
        have d6 : wr.cell? ⟨g, 6, none⟩ = some (.string ⟨#[9]⟩) := (hbl.cell (p := ⟨g, 6, none⟩) hgl).trans c6
        have d7 : wr.cell? ⟨g, 7, none⟩ = some (.string ⟨#[92, 116]⟩) := (hbl.cell (p := ⟨g, 7, none⟩) hgl).trans c7
        have n256 := Lib.cell_of_heap hT 256
        have f256 := Lib.frozen_of_heap hT 256
        rw [h256] at n256
        clear c0 c1 c2 c3 c4 c5 c6 c7 hg hR r4
        obtain rfl | rfl | rfl | rfl | rfl : k = 0 ∨ k = 1 ∨ k = 2 ∨ k = 3 ∨ k = 4 := by omega
        · have nO : wr.cell? ⟨T, ((⟨#[9]⟩ : ByteArray)[0]'(by decide)).toNat, none⟩ = some (.slice none 0 0) := (Lib.cell_of_heap hT 9).trans (hz 9 (by decide) (by decide))
          have hbn : Below wr.heap.size wr ((wr.alloc (.cells #[.int .u8 (((⟨#[9]⟩ : ByteArray)[0]'(by decide)).toNat : Int)] 5)).alloc (.cells #[.string ⟨#[((⟨#[9]⟩ : ByteArray)[0]'(by decide))]⟩] 9)) := ((Below.refl wr.heap.size wr).alloc (Nat.le_refl _) _).alloc (by simp) _
          go_wp2_with (at_builtin; (refine wpList_append_new rfl _ _ 23 rfl w.heap.size 9 i0 (.string ⟨#[]⟩) 1 16 Tryz.underlying23 hi hz0 hz1 hz2 rfl (by decide) (.slice A 0 cp) 0 xs rfl (own_below hown hbn) ⟨wr.heap.size + 1, 0, none⟩ 1 1 [.string ⟨#[((⟨#[9]⟩ : ByteArray)[0]'(by decide))]⟩] rfl rfl ?c1 ?c2 (by decide) ?c3 ?c4 ?c5 ?_))
          case c1 => exact fun j u hu => new_cells2 j u hu
          case c2 => intro u hu; simp at hu; subst hu; rfl
          case c3 => unfold maxLen; omega
          case c4 => omega
          case c5 => have := hbl.size; simp; omega
          intro v' w2 hown' hgrow hfr
          obtain ⟨n256', f256', nO', fO', hfin⟩ := rep_step (B := w.heap.size) (T := T) (k := 0) (o := ((⟨#[9]⟩ : ByteArray)[0]'(by decide)).toNat) (w := w) ⟨#[92, 116]⟩ hTB hT hsz h256 hz (by decide) (by decide) (by decide) hbn hgrow (Lib.ownBlock_ne hown hT (by decide)) (fun j hj => (hown.lt j hj).1) hown' hbl hbl.size
          obtain ⟨A', cp', rfl⟩ := own_slice hown'
          have HF := Lib.hid hfin
          clear hfin hown' hgrow hfr hbn hown hT hz nO n256 f256 d0 d1 d2 d3 d4 d5 d6 d7
          go_wp2
          go_roundw
          case rel => exact ⟨1, by omega, by go_num, (HF.out _).1, (HF.out _).2⟩
          case measure => simp [intOf]
        · have nO : wr.cell? ⟨T, ((⟨#[10]⟩ : ByteArray)[0]'(by decide)).toNat, none⟩ = some (.slice none 0 0) := (Lib.cell_of_heap hT 10).trans (hz 10 (by decide) (by decide))
          have hbn : Below wr.heap.size wr ((wr.alloc (.cells #[.int .u8 (((⟨#[10]⟩ : ByteArray)[0]'(by decide)).toNat : Int)] 5)).alloc (.cells #[.string ⟨#[((⟨#[10]⟩ : ByteArray)[0]'(by decide))]⟩] 9)) := ((Below.refl wr.heap.size wr).alloc (Nat.le_refl _) _).alloc (by simp) _
          go_wp2_with (at_builtin; (refine wpList_append_new rfl _ _ 23 rfl w.heap.size 9 i0 (.string ⟨#[]⟩) 1 16 Tryz.underlying23 hi hz0 hz1 hz2 rfl (by decide) (.slice A 1 cp) 1 xs rfl (own_below hown hbn) ⟨wr.heap.size + 1, 0, none⟩ 1 1 [.string ⟨#[((⟨#[10]⟩ : ByteArray)[0]'(by decide))]⟩] rfl rfl ?c1 ?c2 (by decide) ?c3 ?c4 ?c5 ?_))
          case c1 => exact fun j u hu => new_cells2 j u hu
          case c2 => intro u hu; simp at hu; subst hu; rfl
          case c3 => unfold maxLen; omega
          case c4 => omega
          case c5 => have := hbl.size; simp; omega
          intro v' w2 hown' hgrow hfr
          obtain ⟨n256', f256', nO', fO', hfin⟩ := rep_step (B := w.heap.size) (T := T) (k := 1) (o := ((⟨#[10]⟩ : ByteArray)[0]'(by decide)).toNat) (w := w) ⟨#[92, 110]⟩ hTB hT hsz h256 hz (by decide) (by decide) (by decide) hbn hgrow (Lib.ownBlock_ne hown hT (by decide)) (fun j hj => (hown.lt j hj).1) hown' hbl hbl.size
          obtain ⟨A', cp', rfl⟩ := own_slice hown'
          have HF := Lib.hid hfin
          clear hfin hown' hgrow hfr hbn hown hT hz nO n256 f256 d0 d1 d2 d3 d4 d5 d6 d7
          go_wp2
          go_roundw
          case rel => exact ⟨2, by omega, by go_num, (HF.out _).1, (HF.out _).2⟩
          case measure => simp [intOf]
        · have nO : wr.cell? ⟨T, ((⟨#[34]⟩ : ByteArray)[0]'(by decide)).toNat, none⟩ = some (.slice none 0 0) := (Lib.cell_of_heap hT 34).trans (hz 34 (by decide) (by decide))
          have hbn : Below wr.heap.size wr ((wr.alloc (.cells #[.int .u8 (((⟨#[34]⟩ : ByteArray)[0]'(by decide)).toNat : Int)] 5)).alloc (.cells #[.string ⟨#[((⟨#[34]⟩ : ByteArray)[0]'(by decide))]⟩] 9)) := ((Below.refl wr.heap.size wr).alloc (Nat.le_refl _) _).alloc (by simp) _
          go_wp2_with (at_builtin; (refine wpList_append_new rfl _ _ 23 rfl w.heap.size 9 i0 (.string ⟨#[]⟩) 1 16 Tryz.underlying23 hi hz0 hz1 hz2 rfl (by decide) (.slice A 2 cp) 2 xs rfl (own_below hown hbn) ⟨wr.heap.size + 1, 0, none⟩ 1 1 [.string ⟨#[((⟨#[34]⟩ : ByteArray)[0]'(by decide))]⟩] rfl rfl ?c1 ?c2 (by decide) ?c3 ?c4 ?c5 ?_))
          case c1 => exact fun j u hu => new_cells2 j u hu
          case c2 => intro u hu; simp at hu; subst hu; rfl
          case c3 => unfold maxLen; omega
          case c4 => omega
          case c5 => have := hbl.size; simp; omega
          intro v' w2 hown' hgrow hfr
          obtain ⟨n256', f256', nO', fO', hfin⟩ := rep_step (B := w.heap.size) (T := T) (k := 2) (o := ((⟨#[34]⟩ : ByteArray)[0]'(by decide)).toNat) (w := w) ⟨#[92, 34]⟩ hTB hT hsz h256 hz (by decide) (by decide) (by decide) hbn hgrow (Lib.ownBlock_ne hown hT (by decide)) (fun j hj => (hown.lt j hj).1) hown' hbl hbl.size
          obtain ⟨A', cp', rfl⟩ := own_slice hown'
          have HF := Lib.hid hfin
          clear hfin hown' hgrow hfr hbn hown hT hz nO n256 f256 d0 d1 d2 d3 d4 d5 d6 d7
          go_wp2
          go_roundw
          case rel => exact ⟨3, by omega, by go_num, (HF.out _).1, (HF.out _).2⟩
          case measure => simp [intOf]
        · have nO : wr.cell? ⟨T, ((⟨#[92]⟩ : ByteArray)[0]'(by decide)).toNat, none⟩ = some (.slice none 0 0) := (Lib.cell_of_heap hT 92).trans (hz 92 (by decide) (by decide))
          have hbn : Below wr.heap.size wr ((wr.alloc (.cells #[.int .u8 (((⟨#[92]⟩ : ByteArray)[0]'(by decide)).toNat : Int)] 5)).alloc (.cells #[.string ⟨#[((⟨#[92]⟩ : ByteArray)[0]'(by decide))]⟩] 9)) := ((Below.refl wr.heap.size wr).alloc (Nat.le_refl _) _).alloc (by simp) _
          go_wp2_with (at_builtin; (refine wpList_append_new rfl _ _ 23 rfl w.heap.size 9 i0 (.string ⟨#[]⟩) 1 16 Tryz.underlying23 hi hz0 hz1 hz2 rfl (by decide) (.slice A 3 cp) 3 xs rfl (own_below hown hbn) ⟨wr.heap.size + 1, 0, none⟩ 1 1 [.string ⟨#[((⟨#[92]⟩ : ByteArray)[0]'(by decide))]⟩] rfl rfl ?c1 ?c2 (by decide) ?c3 ?c4 ?c5 ?_))
          case c1 => exact fun j u hu => new_cells2 j u hu
          case c2 => intro u hu; simp at hu; subst hu; rfl
          case c3 => unfold maxLen; omega
          case c4 => omega
          case c5 => have := hbl.size; simp; omega
          intro v' w2 hown' hgrow hfr
          obtain ⟨n256', f256', nO', fO', hfin⟩ := rep_step (B := w.heap.size) (T := T) (k := 3) (o := ((⟨#[92]⟩ : ByteArray)[0]'(by decide)).toNat) (w := w) ⟨#[92, 92]⟩ hTB hT hsz h256 hz (by decide) (by decide) (by decide) hbn hgrow (Lib.ownBlock_ne hown hT (by decide)) (fun j hj => (hown.lt j hj).1) hown' hbl hbl.size
          obtain ⟨A', cp', rfl⟩ := own_slice hown'
          have HF := Lib.hid hfin
          clear hfin hown' hgrow hfr hbn hown hT hz nO n256 f256 d0 d1 d2 d3 d4 d5 d6 d7
          go_wp2
          go_roundw
          case rel => exact ⟨4, by omega, by go_num, (HF.out _).1, (HF.out _).2⟩
          case measure => simp [intOf]
        · have HF := Lib.hid (show TabInv w.heap.size T 4 wr from ⟨cs, _, xs, hT, hsz, h256, hz, hown⟩)
          clear hown hT hz n256 f256 d0 d1 d2 d3 d4 d5 d6 d7
          go_wp2
          go_ret
          exact ⟨T, rfl, hTB, HF.out, hbl⟩
end Go.Proofs.YtejpkjcjoengbaaGreatDoor
set_option linter.unusedVariables false
set_option linter.unusedSimpArgs false
namespace Go.Proofs.YtejpkjcjoengbaaGreatDoor
open Go.RowKit

/-- A text that needs no mark: short, and none of the four bytes in it. -/
def plainB (l : List UInt8) : Bool := decide (l.length < 32) && l.all fun c => !(c == 9 || c == 10 || c == 34 || c == 92)
theorem plainB_at {l : List UInt8} (h : plainB l = true) : l.length < 32 ∧ ∀ (k : Nat) (hk : k < l.length), l[k].toNat ∉ special.take 4 := by
  simp only [plainB, Bool.and_eq_true, decide_eq_true_eq, List.all_eq_true] at h
  refine ⟨h.1, fun k hk hm => ?_⟩
  have := h.2 _ (List.getElem_mem hk)
  generalize l[k] = c at *
  simp [special] at hm
  simp at this
  rcases hm with e | e | e | e
  · exact this.1.1.1 (UInt8.toNat_inj.1 e)
  · exact this.1.1.2 (UInt8.toNat_inj.1 e)
  · exact this.1.2 (UInt8.toNat_inj.1 e)
  · exact this.2 (UInt8.toNat_inj.1 e)

set_option maxHeartbeats 1000000 in
set_option maxRecDepth 100000 in
theorem rep_replace {w : World} {B T : Nat} (hT : TabInv B T 4 w) (l : List UInt8) (hl : plainB l = true) :
    Calls Tryz.prog 254 #[.pointer (some ⟨T, 0, none⟩), .string (bs l)] w fun e w' => e = .returned (.string (bs l)) ∧ w = w' := by
  obtain ⟨hl1, hl2⟩ := plainB_at hl
  obtain ⟨cs, v, xs, hT, hsz, h256, hz, hown⟩ := hT
  obtain ⟨A, cp, rfl⟩ := own_slice hown
  have n256 := (Lib.cell_of_heap hT 256).trans h256
  have hn : ∀ w : World, (binOp .neq 29 (.slice none 0 0) (.slice none 0 0)).run Tryz.prog w = .ok (.bool false) w := fun _ => rfl
  have hsl : (bs l).size = l.length := bs_size l
  have hcell : ∀ (k : Nat) (hk : k < (bs l).size), w.cell? ⟨T, (bs l)[k].toNat, none⟩ = some (.slice none 0 0) := by
    intro k hk
    have hk' : k < l.length := by omega
    have e : (bs l)[k] = l[k] := by simp [bs]; rfl
    rw [e]
    exact (Lib.cell_of_heap hT _).trans (hz _ (by have := l[k].toNat_lt; omega) (hl2 k hk'))
  have HC := Lib.hid hcell
  clear hcell hz hl2
  go_enter Tryz.func254, Tryz.ntmps254
  go_wp2
  go_loopw [6, 10] (fun t i wr => ∃ k : Nat, k ≤ l.length ∧ i = .int .i64 k ∧ t = .bool false ∧ w = wr) (fun t i wr => l.length - (intOf i).toNat)
  case atStart => exact ⟨0, by omega, rfl, rfl, rfl⟩
  case round =>
    obtain ⟨k, hk, rfl, rfl, rfl⟩ := hrel
    by_cases hlt : k < l.length
    · have hlt2 : k < (bs l).size := by omega
      have hc := HC.out k hlt2
      have h255 : ((bs l)[k].toNat : Int) < 256 := by have := (bs l)[k].toNat_lt; omega
      go_wp2
      go_roundw
      case rel => exact ⟨k + 1, by omega, by go_num, (by first | rfl | trivial), (by first | rfl | trivial)⟩
      case measure => simp [intOf]; omega
    · go_wp2
      go_ret
      exact ⟨rfl, rfl⟩
end Go.Proofs.YtejpkjcjoengbaaGreatDoor
set_option linter.unusedVariables false
set_option linter.unusedSimpArgs false
namespace Go.Proofs.YtejpkjcjoengbaaGreatDoor
open Go.RowKit

theorem o_disable (w : World) : (callFunc 189 #[]).run Tryz.prog w = .ok (.value (.tuple #[])) w := run_call_mark0 Tryz.func189 (by kernel_rfl) (by kernel_rfl) (by kernel_rfl) .disable (by kernel_rfl) w
theorem o_enable (w : World) : (callFunc 191 #[]).run Tryz.prog w = .ok (.value (.tuple #[])) w := run_call_mark0 Tryz.func191 (by kernel_rfl) (by kernel_rfl) (by kernel_rfl) .enable (by kernel_rfl) w
theorem o_acquire (a : Addr) (w : World) : (callFunc 192 #[.pointer (some a)]).run Tryz.prog w = .ok (.value (.tuple #[])) w := run_call_marked Tryz.func192 (by kernel_rfl) (by kernel_rfl) (by kernel_rfl) .acquire (by kernel_rfl) a w
theorem o_releaseMerge (a : Addr) (w : World) : (callFunc 194 #[.pointer (some a)]).run Tryz.prog w = .ok (.value (.tuple #[])) w := run_call_marked Tryz.func194 (by kernel_rfl) (by kernel_rfl) (by kernel_rfl) .releaseMerge (by kernel_rfl) a w

theorem store_deferred (a : Addr) (x : Value) (u : FrameMode) (w : World) (hc : w.cell? a = some x) (hz : w.frozen? a = false) :
    CallsD Tryz.prog 153 #[.pointer (some a), .bool true] u w fun e u' w' => u' = u ∧ (e = .returned (.tuple #[]) ∧ w' = w.drew.setCell a (.int .u32 1)) := by
  have hc' : w.drew.cell? a = some x := by go_simp
  have hz' : w.drew.frozen? a = false := by go_simp
  have hst := run_call_store (P := Tryz.prog) Tryz.func174 (by kernel_rfl) (by kernel_rfl) (by kernel_rfl) (by kernel_rfl) (k := .u32) (y := 1) hc' hz'
  go_enter_d Tryz.func153, Tryz.ntmps153
  go_wp2
  go_region_calls
  all_goals (go_end0; exact ⟨rfl, rfl⟩)

set_option maxRecDepth 100000 in
set_option maxHeartbeats 1000000 in
theorem unlock_deferred (a : Addr) (u : FrameMode) (w : World) (hc : w.cell? a = some (.int .i32 1)) (hz : w.frozen? a = false) :
    CallsD Tryz.prog 152 #[.pointer (some a)] u w fun e u' w' => u' = u ∧ (e = .returned (.tuple #[]) ∧ w' = w.setCell a (.int .i32 0)) := by
  have hd := o_disable
  have he := o_enable
  have hr := o_releaseMerge
  have hadd := run_call_add (P := Tryz.prog) Tryz.func195 (by kernel_rfl) (by kernel_rfl) (by kernel_rfl) .i32 (by kernel_rfl) (y := -1) (s := 0) hc hz (by simp [go_sem]; rfl)
  have hcv := run_convert_to_unsafe (P := Tryz.prog) (src := 266) (dst := 78) Tryz.underlying266 Tryz.underlying78 (by kernel_rfl) hc
  go_enter_d Tryz.func152, Tryz.ntmps152
  go_wp2
  go_end0
  go_wp2
  go_end0
  exact ⟨rfl, rfl⟩

set_option maxRecDepth 100000 in
set_option maxHeartbeats 1000000 in
theorem lock_free (a : Addr) (w : World) (hc : w.cell? a = some (.int .i32 0)) (hz : w.frozen? a = false) :
    Calls Tryz.prog 151 #[.pointer (some a)] w fun e w' => e = .returned (.tuple #[]) ∧ w' = w.setCell a (.int .i32 1) := by
  have hd := o_disable
  have he := o_enable
  have ha := o_acquire
  have hcas := run_call_cas_hit (P := Tryz.prog) Tryz.func190 (by kernel_rfl) (by kernel_rfl) (by kernel_rfl) .i32 (by kernel_rfl) (y := 1) hc hz
  have hc' : (w.setCell a (.int .i32 1)).cell? a = some (.int .i32 1) := World.cell?_setCell_same w a _ hc
  have hcv := run_convert_to_unsafe (P := Tryz.prog) (src := 266) (dst := 78) Tryz.underlying266 Tryz.underlying78 (by kernel_rfl) hc'
  go_enter Tryz.func151, Tryz.ntmps151
  go_wp2
  first | go_end0 | (simp only [Exit.inBlock, Exit.then]; refine bodyPost_ret (results_none rfl _ _ _) rfl ?_) | refine bodyPost_ret (results_none rfl _ _ _) rfl ?_
  go_wp2
  go_end0
  exact ⟨rfl, rfl⟩
end Go.Proofs.YtejpkjcjoengbaaGreatDoor
set_option linter.unusedVariables false
set_option linter.unusedSimpArgs false
namespace Go.Proofs.YtejpkjcjoengbaaGreatDoor
open Go.RowKit

theorem TabInv.store {B T k R : Nat} {w : World} {cs : Array Value} {ty : TypeId} (h : TabInv B T k w) (hR : w.heap[R]? = some (.cells cs ty (0, 0))) (hty : ty ≠ 9) (hty2 : ty ≠ 225) (j : Nat) (x : Value) : TabInv B T k (w.setCell ⟨R, j, none⟩ x) := by
  obtain ⟨cs', v, xs, hT, hsz, h256, hz, hown⟩ := h
  have hne : T ≠ R := fun e => by subst e; rw [hR] at hT; injection hT with hT; injection hT with _ h2; exact hty2 h2
  refine ⟨cs', v, xs, (Below.heap_setCell _ _ _ _ hne).trans hT, hsz, h256, hz, hown.kept (row := some R) ⟨rfl, rfl, rfl, by simp [World.setCell], fun k _ hk => Below.heap_setCell _ _ _ _ (fun e => hk (by simp [e]))⟩ (Or.inr (Lib.ownBlock_ne hown hR hty))⟩
theorem TabInv.below {B T k : Nat} {w w' : World} (h : TabInv B T k w) (hb : Below w.heap.size w w') : TabInv B T k w' := by
  obtain ⟨cs', v, xs, hT, hsz, h256, hz, hown⟩ := h
  exact ⟨cs', v, xs, (hb.block T (Array.getElem?_eq_some_iff.1 hT).1).trans hT, hsz, h256, hz, own_below hown hb⟩
theorem TabInv.base {B B' T k : Nat} {w : World} (h : TabInv B T k w) (hB : B' ≤ B) : TabInv B' T k w := by
  obtain ⟨cs', v, xs, hT, hsz, h256, hz, hl, hown⟩ := h
  refine ⟨cs', v, xs, hT, hsz, h256, hz, hl, ?_⟩
  rcases hown with h1 | ⟨g, cap, cur, h1, h2, h3⟩
  · exact .inl h1
  · exact .inr ⟨g, cap, cur, h1, by omega, h3⟩

abbrev repCells (d s m : Int) (r v : Value) : Array Value := #[.int .u32 d, .int .i32 s, .int .u32 m, r, v]

/-- A Replacer whose table is made. -/
def RepDone (B R T : Nat) (w : World) : Prop := w.heap[R]? = some (.cells (repCells 1 0 0 (.iface 226 (.pointer (some ⟨T, 0, none⟩))) (.slice none 0 0)) 182 (0, 0)) ∧ TabInv B T 4 w

set_option maxHeartbeats 1000000 in
set_option maxRecDepth 100000 in
/-- buildOnce: the table is laid, the pairs are let go. -/
theorem rep_buildOnce {w : World} (R g c : Nat) (d : Int) (hR : w.heap[R]? = some (.cells (repCells 0 d 0 .nilIface (.slice (some ⟨g, 0, none⟩) 8 c)) 182 (0, 0)))
    (hg : ∀ j x, (strCells quoteRow)[j]? = some x → w.cell? ⟨g, j, none⟩ = some x) :
    Calls Tryz.prog 111 #[.pointer (some ⟨R, 0, none⟩)] w fun e w' => ∃ T w1, e = .returned (.tuple #[]) ∧ w.heap.size ≤ T ∧ TabInv w.heap.size T 4 w1 ∧ Below w.heap.size w w1 ∧ w' = (w1.setCell ⟨R, 3, none⟩ (.iface 226 (.pointer (some ⟨T, 0, none⟩)))).setCell ⟨R, 4, none⟩ (.slice none 0 0) := by
  go_enter Tryz.func111, Tryz.ntmps111
  go_wp2_with (go_at_call 136; refine (rep_build R g c (.int .i32 d) .nilIface hR hg).mono ?_)
  rintro e w1 ⟨T, rfl, hT, hI, hb⟩
  have hRl : R < w.heap.size := (Array.getElem?_eq_some_iff.1 hR).1
  have hR1 := (hb.block R hRl).trans hR
  have c3 := Lib.cell_of_heap hR1 3
  have c4 := Lib.cell_of_heap hR1 4
  have f3 := Lib.frozen_of_heap hR1 3
  have f4 := Lib.frozen_of_heap hR1 4
  simp at c3 c4
  have HI := Lib.hid hI
  clear hI
  go_wp2
  go_end0
  exact ⟨T, w1, rfl, hT, HI.out, hb, rfl⟩

theorem atomic_load (a : Addr) (d : Int) (v : Bool) (hv : (d != 0) = v) (w : World) (hc : w.cell? a = some (.int .u32 d)) :
    Calls Tryz.prog 134 #[.pointer (some a)] w fun e w' => e = .returned (.bool v) ∧ w = w' := by
  subst hv
  have hl := run_call_load (P := Tryz.prog) Tryz.func150 (by kernel_rfl) (by kernel_rfl) (by kernel_rfl) .u32 (by kernel_rfl) hc
  go_enter Tryz.func134, Tryz.ntmps134
  go_wp2
  go_ret
  exact ⟨rfl, rfl⟩

set_option maxHeartbeats 1000000 in
set_option maxRecDepth 100000 in
theorem rep_slow {w : World} (R g c : Nat) (hR : w.heap[R]? = some (.cells (repCells 0 0 0 .nilIface (.slice (some ⟨g, 0, none⟩) 8 c)) 182 (0, 0))) (hgR : g ≠ R)
    (hg : ∀ j x, (strCells quoteRow)[j]? = some x → w.cell? ⟨g, j, none⟩ = some x) :
    Calls Tryz.prog 135 #[.pointer (some ⟨R, 0, none⟩), .func (.func 111) #[.pointer (some ⟨R, 0, none⟩)] #[]] w fun e w' => e = .returned (.tuple #[]) ∧ ∃ T, RepDone w.heap.size R T w' ∧ Moved R .nilIface .nilIface w w' := by
  have c0 := Lib.cell_of_heap hR 0
  have c1 := Lib.cell_of_heap hR 1
  have f0 := Lib.frozen_of_heap hR 0
  have f1 := Lib.frozen_of_heap hR 1
  simp at c0 c1
  have hRl : R < w.heap.size := (Array.getElem?_eq_some_iff.1 hR).1
  have hR1 : (w.setCell ⟨R, 1, none⟩ (.int .i32 1)).heap[R]? = some (.cells (repCells 0 1 0 .nilIface (.slice (some ⟨g, 0, none⟩) 8 c)) 182 (0, 0)) := set_same hR rfl
  have hld := Lib.cell_of_heap hR1 0
  simp at hld
  have hg1 : ∀ j x, (strCells quoteRow)[j]? = some x → (w.setCell ⟨R, 1, none⟩ (.int .i32 1)).cell? ⟨g, j, none⟩ = some x := fun j x hx => (World.cell?_of_block (Below.heap_setCell _ _ _ _ hgR)).trans (hg j x hx)
  have hnot : ∀ (x : Bool) (w : World), (Op.unary .not (.bool x)).run Tryz.prog w = .ok (.bool (!x)) w := fun _ _ => rfl
  go_enter_defers Tryz.func135, Tryz.ntmps135
  go_wp2_with (go_at_call 151; refine (lock_free ⟨R, 1, none⟩ _ c1 f1).mono ?_; rintro e w' ⟨rfl, rfl⟩)
  go_wp2_with (go_at_call 134; refine (atomic_load ⟨R, 0, none⟩ 0 false rfl _ hld).mono ?_; rintro e w' ⟨rfl, rfl⟩)
  go_wp2_with (go_at_call 111; refine (rep_buildOnce R g c 1 hR1 hg1).mono ?_)
  rintro e w2 ⟨T, w1, rfl, hT, hI, hb, rfl⟩
  have hsz0 : (w.setCell ⟨R, 1, none⟩ (.int .i32 1)).heap.size = w.heap.size := by simp [World.setCell]
  rw [hsz0] at hT hI hb
  have k1 := (hb.block R hRl).trans hR1
  have I1 := hI.store (R := R) k1 (by decide) (by decide) 3 (.iface 226 (.pointer (some ⟨T, 0, none⟩)))
  have k2 := set_same (i := 3) (v := .iface 226 (.pointer (some ⟨T, 0, none⟩))) k1 rfl
  have I2 := I1.store (R := R) k2 (by decide) (by decide) 4 (.slice none 0 0)
  have k3 := set_same (i := 4) (v := .slice none 0 0) k2 rfl
  have hm : ∀ k, k < w.heap.size → k ≠ R → ((w1.setCell ⟨R, 3, none⟩ (.iface 226 (.pointer (some ⟨T, 0, none⟩)))).setCell ⟨R, 4, none⟩ (.slice none 0 0)).heap[k]? = w.heap[k]? := fun k hk hn =>
    (Below.heap_setCell _ _ _ _ hn).trans ((Below.heap_setCell _ _ _ _ hn).trans ((hb.block k hk).trans (Below.heap_setCell _ _ _ _ hn)))
  have hms : w.heap.size ≤ ((w1.setCell ⟨R, 3, none⟩ (.iface 226 (.pointer (some ⟨T, 0, none⟩)))).setCell ⟨R, 4, none⟩ (.slice none 0 0)).heap.size := by have := hb.size; simp [World.setCell] at *; omega
  have hmo : ((w1.setCell ⟨R, 3, none⟩ (.iface 226 (.pointer (some ⟨T, 0, none⟩)))).setCell ⟨R, 4, none⟩ (.slice none 0 0)).os = w.os ∧ ((w1.setCell ⟨R, 3, none⟩ (.iface 226 (.pointer (some ⟨T, 0, none⟩)))).setCell ⟨R, 4, none⟩ (.slice none 0 0)).tape = w.tape ∧ ((w1.setCell ⟨R, 3, none⟩ (.iface 226 (.pointer (some ⟨T, 0, none⟩)))).setCell ⟨R, 4, none⟩ (.slice none 0 0)).output = w.output := ⟨hb.os, hb.tape, hb.output⟩
  generalize (w1.setCell ⟨R, 3, none⟩ (.iface 226 (.pointer (some ⟨T, 0, none⟩)))).setCell ⟨R, 4, none⟩ (.slice none 0 0) = w2 at *
  have HH := Lib.hid (And.intro I2 (And.intro k3 (And.intro hm (And.intro hms hmo))))
  clear I1 I2 k1 k2 hm hms hmo hI hb hR hg hR1 hg1
  go_wp2
  obtain ⟨J1, J2, J3, J4, J5, J6, J7⟩ := HH.out
  have e0 := Lib.cell_of_heap J2 0
  have z0 := Lib.frozen_of_heap J2 0
  have z1 := Lib.frozen_of_heap J2 1
  simp at e0
  have q1 := set_same (w := w2.drew) (i := 0) (v := .int .u32 1) J2 rfl
  have q2 := set_same (i := 1) (v := .int .i32 0) q1 rfl
  have I3 := TabInv.store (w := w2.drew) (R := R) (J1.below (Below.refl _ _).drew) J2 (by decide) (by decide) 0 (.int .u32 1)
  have I4 := I3.store (R := R) q1 (by decide) (by decide) 1 (.int .i32 0)
  refine leaves_cons (f := 153) (args := #[.pointer (some ⟨R, 0, none⟩), .bool true]) (by simp) (by simp [go_sem]) ?_
  refine (store_deferred ⟨R, 0, none⟩ (.int .u32 0) .returning _ e0 z0).mono ?_
  rintro e u' w'' ⟨rfl, rfl, rfl⟩
  refine leaves_cons (f := 152) (args := #[.pointer (some ⟨R, 1, none⟩)]) (by simp [settle]) (by simp [go_sem]) ?_
  refine (unlock_deferred ⟨R, 1, none⟩ _ _ (Lib.cell_of_heap q1 1) (Lib.frozen_of_heap q1 1)).mono ?_
  rintro e u' w'' ⟨rfl, rfl, rfl⟩
  have hfin : RepDone w.heap.size R T ((w2.drew.setCell ⟨R, 0, none⟩ (.int .u32 1)).setCell ⟨R, 1, none⟩ (.int .i32 0)) ∧ Moved R .nilIface .nilIface w ((w2.drew.setCell ⟨R, 0, none⟩ (.int .u32 1)).setCell ⟨R, 1, none⟩ (.int .i32 0)) :=
    ⟨⟨q2, I4⟩, J5, J6, J7, by simpa [World.setCell] using J4, fun k hk hn _ => (Below.heap_setCell _ _ _ _ hn).trans ((Below.heap_setCell _ _ _ _ hn).trans (J3 k hk hn)), fun k hk => by simp [Value.ownBlock] at hk⟩
  simp only [Leaves, settle]
  exact ⟨_, results_none Tryz.results135 _ _ _, rfl, T, hfin⟩
end Go.Proofs.YtejpkjcjoengbaaGreatDoor
set_option linter.unusedVariables false
set_option linter.unusedSimpArgs false
namespace Go.Proofs.YtejpkjcjoengbaaGreatDoor
open Go.RowKit

set_option maxHeartbeats 1000000 in
set_option maxRecDepth 100000 in
theorem do_first {w : World} (R g c : Nat) (hR : w.heap[R]? = some (.cells (repCells 0 0 0 .nilIface (.slice (some ⟨g, 0, none⟩) 8 c)) 182 (0, 0))) (hgR : g ≠ R)
    (hg : ∀ j x, (strCells quoteRow)[j]? = some x → w.cell? ⟨g, j, none⟩ = some x) :
    Calls Tryz.prog 110 #[.pointer (some ⟨R, 0, none⟩), .func (.func 111) #[.pointer (some ⟨R, 0, none⟩)] #[]] w fun e w' => e = .returned (.tuple #[]) ∧ ∃ T, RepDone w.heap.size R T w' ∧ Moved R .nilIface .nilIface w w' := by
  have c0 := Lib.cell_of_heap hR 0
  simp at c0
  have hnot : ∀ (x : Bool) (w : World), (Op.unary .not (.bool x)).run Tryz.prog w = .ok (.bool (!x)) w := fun _ _ => rfl
  go_enter Tryz.func110, Tryz.ntmps110
  go_wp2_with (first | (go_at_call 134; refine (atomic_load ⟨R, 0, none⟩ 0 false rfl _ c0).mono ?_; rintro e w' ⟨rfl, rfl⟩) | (go_at_call 135; refine (rep_slow R g c hR hgR hg).mono ?_; rintro e w2 ⟨rfl, hq⟩))
  go_end0
  exact ⟨rfl, hq⟩

theorem do_done {w : World} (R : Nat) (fv : Value) (c0 : w.cell? ⟨R, 0, none⟩ = some (.int .u32 1)) :
    Calls Tryz.prog 110 #[.pointer (some ⟨R, 0, none⟩), fv] w fun e w' => e = .returned (.tuple #[]) ∧ w = w' := by
  have hnot : ∀ (x : Bool) (w : World), (Op.unary .not (.bool x)).run Tryz.prog w = .ok (.bool (!x)) w := fun _ _ => rfl
  go_enter Tryz.func110, Tryz.ntmps110
  go_wp2_with (go_at_call 134; refine (atomic_load ⟨R, 0, none⟩ 1 true rfl _ c0).mono ?_; rintro e w' ⟨rfl, rfl⟩)
  go_end0
  exact ⟨rfl, rfl⟩

set_option maxHeartbeats 1000000 in
set_option maxRecDepth 100000 in
theorem replace_first {w : World} (B R : Nat) (hN : RepNew B R w) (l : List UInt8) (hl : plainB l = true) :
    Calls Tryz.prog 75 #[.pointer (some ⟨R, 0, none⟩), .string (bs l)] w fun e w' => e = .returned (.string (bs l)) ∧ ∃ T, RepDone w.heap.size R T w' ∧ Moved R .nilIface .nilIface w w' := by
  obtain ⟨hB, v, hR, hown⟩ := hN
  obtain ⟨g, c, rfl, hgR⟩ : ∃ g c, v = .slice (some ⟨g, 0, none⟩) 8 c ∧ g ≠ R := by
    have hne := Lib.ownBlock_ne hown hR (by decide)
    rcases hown.2 with ⟨_, h0⟩ | ⟨g, cap, cur, hv, _⟩
    · simp [strCells, quoteRow] at h0
    · exact ⟨g, cap, by rw [hv], fun e => hne (by rw [hv]; simp [Value.ownBlock, e])⟩
  have hg : ∀ j x, (strCells quoteRow)[j]? = some x → w.cell? ⟨g, j, none⟩ = some x := fun j x hx => by
    have := hown.cells (g := g) rfl j x hx
    rw [add_plain] at this
    exact this
  have hmr : ∀ (T : Nat) (w : World), (method 428 226 (.pointer (some ⟨T, 0, none⟩)) "Replace").run Tryz.prog w = .ok (254, .pointer (some ⟨T, 0, none⟩)) w := fun _ _ => by kernel_rfl
  have hmf : ∀ (fn : Fn) (first cap : Array Value) (w : World), (Instr.makeFunc fn first cap).run Tryz.prog w = .ok (.func fn first cap) w := fun _ _ _ _ => rfl
  have HD := Lib.hid (do_first R g c hR hgR hg)
  clear hg hown
  go_enter Tryz.func75, Tryz.ntmps75
  go_wp2_with (go_at_call 110; refine HD.out.mono ?_)
  rintro e w2 ⟨rfl, T, ⟨hR2, hT⟩, hm⟩
  have c3 := Lib.cell_of_heap hR2 3
  simp at c3
  have HT := Lib.hid hT
  clear hT
  go_wp2_with (go_at_call 254; refine (rep_replace HT.out l hl).mono ?_; rintro e w3 ⟨rfl, rfl⟩)
  go_ret
  exact ⟨rfl, T, ⟨hR2, HT.out⟩, hm⟩

set_option maxHeartbeats 1000000 in
set_option maxRecDepth 100000 in
theorem replace_again {w : World} (B R T : Nat) (hN : RepDone B R T w) (l : List UInt8) (hl : plainB l = true) :
    Calls Tryz.prog 75 #[.pointer (some ⟨R, 0, none⟩), .string (bs l)] w fun e w' => e = .returned (.string (bs l)) ∧ w = w' := by
  obtain ⟨hR, hT⟩ := hN
  have hmr : ∀ (T : Nat) (w : World), (method 428 226 (.pointer (some ⟨T, 0, none⟩)) "Replace").run Tryz.prog w = .ok (254, .pointer (some ⟨T, 0, none⟩)) w := fun _ _ => by kernel_rfl
  have hmf : ∀ (fn : Fn) (first cap : Array Value) (w : World), (Instr.makeFunc fn first cap).run Tryz.prog w = .ok (.func fn first cap) w := fun _ _ _ _ => rfl
  have c0 := Lib.cell_of_heap hR 0
  have c3 := Lib.cell_of_heap hR 3
  simp at c0 c3
  have HT := Lib.hid hT
  clear hT
  go_enter Tryz.func75, Tryz.ntmps75
  go_wp2_with (first | (go_at_call 110; refine (do_done R _ c0).mono ?_; rintro e w' ⟨rfl, rfl⟩) | (go_at_call 254; refine (rep_replace HT.out l hl).mono ?_; rintro e w3 ⟨rfl, rfl⟩))
  go_ret
  exact ⟨rfl, rfl⟩
end Go.Proofs.YtejpkjcjoengbaaGreatDoor
set_option linter.unusedVariables false
set_option linter.unusedSimpArgs false
namespace Go.Proofs.YtejpkjcjoengbaaGreatDoor
open Go.RowKit

theorem RepNew.below {B R : Nat} {w w' : World} (h : RepNew B R w) (hb : Below w.heap.size w w') : RepNew B R w' := by
  obtain ⟨h1, v, hR, hown⟩ := h
  exact ⟨h1, v, (hb.block R (Array.getElem?_eq_some_iff.1 hR).1).trans hR, own_below hown hb⟩

abbrev quoted (x : List UInt8) : List UInt8 := 34 :: (x ++ [34])

theorem next_quoted (x : List UInt8) (hx : x.length < 32) (hq : nextF (quoted x) = ⟨3, x, x.length + 2⟩) {w : World} (hg : Glob w) :
    Calls Tryz.prog 73 #[.string (bs (quoted x))] w fun e w' => e = .returned (.tuple #[.agg #[.int .i64 3, .string (bs x), .int .i64 0], .int .i64 (x.length + 2)]) ∧ Below w.heap.size w w' := by
  have hs : (bs (quoted x)).size = x.length + 2 := by rw [bs_size]; simp
  refine (lex_next (bs (quoted x)) w (by omega) (by omega) hg).mono ?_
  rintro e w' ⟨rfl, hb⟩
  refine ⟨?_, hb⟩
  have : (bs (quoted x)).data.toList = quoted x := by simp [bs]
  rw [this, hq]
  simp

set_option maxHeartbeats 1000000 in
set_option maxRecDepth 100000 in
theorem show_text {w : World} (g c : Nat) (x : List UInt8) (at_ : Int) (hg : Glob w) (hc : ∀ (j : Nat) u, [Value.int .i64 3, .string (bs x), .int .i64 at_][j]? = some u → w.cell? ⟨g, j, none⟩ = some u) (hx : plainB x = true) (hq : nextF (quoted x) = ⟨3, x, x.length + 2⟩) :
    Calls Tryz.prog 31 #[.slice (some ⟨g, 0, none⟩) 1 c] w fun e w' => e = .returned (.tuple #[.string (bs (quoted x)), .int .i64 0]) ∧ Below w.heap.size w w' := by
  have c0 := hc 0 _ rfl
  have c1 := hc 1 _ rfl
  have c2 := hc 2 _ rfl
  have hgl : g < w.heap.size := by
    have := c0; unfold World.cell? at this; rcases Nat.lt_or_ge g w.heap.size with h | h
    · exact h
    · simp [Array.getElem?_eq_none h] at this
  have hl := (plainB_at hx).1
  clear hc
  go_enter Tryz.func31, Tryz.ntmps31
  go_wp2_with (go_at_call 74; refine (newReplacer w.heap.size 8 (heap_alloc_new w _)).mono ?_)
  rintro e w1 ⟨R, rfl, hR, hb1⟩
  have hbw : Below w.heap.size w w1 := ((Below.refl w.heap.size w).alloc (Nat.le_refl _) (.cells (strCells quoteRow).toArray 9)).trans (hb1.mono (by simp))
  have d0 := (hbw.cell (p := ⟨g, 0, none⟩) hgl).trans c0
  have d1 := (hbw.cell (p := ⟨g, 1, none⟩) hgl).trans c1
  have d2 := (hbw.cell (p := ⟨g, 2, none⟩) hgl).trans c2
  have hg1 := hg.grown hbw
  have hgl1 : g < w1.heap.size := Nat.lt_of_lt_of_le hgl hbw.size
  have HR := Lib.hid hR
  clear hR hb1 c0 c1 c2
  obtain ⟨i0, hi, hz0, hz1, hz2⟩ := info_parts infoStr
  go_wp2
  go_loopw [5, 15] (fun o i wr => (i = .int .i64 0 ∧ o = .slice none 0 0 ∧ w1 = wr) ∨ (i = .int .i64 1 ∧ wr.ownsRow w.heap.size 9 1 o 1 [.string (bs (quoted x))] ∧ Below w.heap.size w wr)) (fun o i wr => 1 - (intOf i).toNat)
  case atStart => exact .inl ⟨rfl, rfl, rfl⟩
  case round =>
    rcases hrel with ⟨rfl, rfl, rfl⟩ | ⟨rfl, hown, hb2⟩
    · have hN := RepNew.below HR.out ((Below.refl w1.heap.size w1).alloc (Nat.le_refl _) (.cells #[.int .i64 3, .string (bs x), .int .i64 at_] 103))
      go_wp2_with (go_at_call 75; refine (replace_first _ R hN x hx).mono ?_)
      rintro e w2 ⟨rfl, T, hdone, hm⟩
      have hRl : R < w1.heap.size := (Array.getElem?_eq_some_iff.1 HR.out.2.choose_spec.1).1
      have htok : w2.heap[w1.heap.size]? = some (.cells #[.int .i64 3, .string (bs x), .int .i64 at_] 103 (0, 0)) := by
        rw [hm.block w1.heap.size (by simp) (by omega) (by simp [Value.ownBlock])]; exact heap_alloc_new w1 _
      have hb2 : Below w.heap.size w w2 := by
        refine ⟨hm.os.trans hbw.os, hm.tape.trans hbw.tape, hm.output.trans hbw.output, ?_, fun k hk => ?_⟩
        · have h1 := hm.size; have h2 := hbw.size; simp at h1; omega
        · have h2 := hbw.size
          rw [hm.block k (by simp; omega) (by have := HR.out.1; simp at this; omega) (by simp [Value.ownBlock]), Below.heap_alloc _ _ _ (by omega)]
          exact hbw.block k hk
      have hcat : (⟨#[34]⟩ : ByteArray) ++ bs x ++ ⟨#[34]⟩ = bs (quoted x) := by apply ByteArray.ext; simp [bs]
      have e0 := Lib.cell_of_heap htok 0
      have e1 := Lib.cell_of_heap htok 1
      have e2 := Lib.cell_of_heap htok 2
      simp at e0 e1 e2
      have hg2 := hg.grown hb2
      have HT := Lib.hid htok
      clear hm hdone hN htok
      have hN1 : w1.heap.size < w2.heap.size := (Array.getElem?_eq_some_iff.1 HT.out).1
      go_wp2_with (go_at_call 73; refine (next_quoted x hl hq hg2).mono ?_)
      rintro e w3 ⟨rfl, hb3⟩
      have hb4 : Below w3.heap.size w3 (w3.alloc (.cells #[.int .i64 3, .string (bs x), .int .i64 at_] 103)) := (Below.refl w3.heap.size w3).alloc (Nat.le_refl _) _
      have htok3 := (hb3.block _ hN1).trans HT.out
      have htok4 := (hb4.block _ (Nat.lt_of_lt_of_le hN1 hb3.size)).trans htok3
      have htok5 := (((Below.refl w3.heap.size w3).alloc (Nat.le_refl _) (.cells #[.int .i64 3, .string (bs x), .int .i64 0] 103)).block _ (Nat.lt_of_lt_of_le hN1 hb3.size)).trans htok3
      have f2 := Lib.cell_of_heap htok5 2
      have k0 := Lib.cell_of_heap htok4 0
      have k1 := Lib.cell_of_heap htok4 1
      have k2 := Lib.cell_of_heap htok4 2
      simp at f2 k0 k1 k2
      have HT4 := Lib.hid htok4
      clear htok3 htok4 htok5 e0 e1 e2
      have hb5 : Below w3.heap.size w3 ((w3.alloc (.cells #[.int .i64 3, .string (bs x), .int .i64 at_] 103)).alloc (.cells #[.string (bs (quoted x))] 9)) := hb4.alloc (by simp) _
      go_wp2_with (at_builtin; (refine wpList_append_new rfl _ _ 23 rfl w.heap.size 9 i0 (.string ⟨#[]⟩) 1 16 Tryz.underlying23 hi hz0 hz1 hz2 rfl (by decide) (.slice none 0 0) 0 [] rfl ?c0 ⟨w3.heap.size + 1, 0, none⟩ 1 1 [.string (bs (quoted x))] rfl rfl ?c1 ?c2 (by decide) ?c3 ?c4 ?c5 ?_))
      case c0 => exact ⟨by simp, .inl ⟨rfl, rfl⟩⟩
      case c1 => exact fun j u hu => new_cells2 j u hu
      case c2 => intro u hu; simp at hu; subst hu; rfl
      case c3 => unfold maxLen; omega
      case c4 => omega
      case c5 => have h1 := hb2.size; have h2 := hb3.size; simp; omega
      intro v' w4 hown' hgr hfr
      have hb6 : Below w.heap.size w w4 := ((hb2.trans (hb3.mono hb2.size)).trans (hb5.mono (Nat.le_trans hb2.size hb3.size))).grown hgr (Nat.le_trans (Nat.le_trans hb2.size hb3.size) hb5.size) (by simp [Value.ownBlock])
      have HO := Lib.hid (And.intro hown' hb6)
      obtain ⟨A, cp, rfl⟩ := own_slice hown'
      clear hown' hgr hfr hb6 hb5
      go_wp2
      go_roundw
      case rel => exact .inr ⟨by go_num, HO.out.1, HO.out.2⟩
      case measure => simp [intOf]
    · obtain ⟨g', cp, rfl⟩ : ∃ g' cp, u5 = .slice (some ⟨g', 0, none⟩) 1 cp := by
        rcases hown.2 with ⟨_, h0⟩ | ⟨g', cap, cur, hv, _⟩
        · simp at h0
        · exact ⟨g', cap, hv⟩
      have hj := hown.cells (g := g') rfl 0 _ rfl
      rw [add_plain] at hj
      clear hown
      go_wp2
      go_ret2
      exact ⟨rfl, hb2⟩
end Go.Proofs.YtejpkjcjoengbaaGreatDoor
