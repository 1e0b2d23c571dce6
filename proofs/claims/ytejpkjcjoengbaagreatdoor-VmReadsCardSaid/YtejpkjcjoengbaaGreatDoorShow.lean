/-
  lex.Show of one text that needs no mark, by walk.
-/
import Derived.Test.YtejpkjcjoengbaaGreatDoorRepF
import Derived.Test.YtejpkjcjoengbaaGreatDoorVmF
set_option linter.unusedVariables false
set_option linter.unusedSimpArgs false
namespace Go.Proofs.YtejpkjcjoengbaaGreatDoor
open Go.RowKit

theorem RepNew.below {B R : Nat} {w w' : World} (h : RepNew B R w) (hb : Below w.heap.size w w') : RepNew B R w' := by
  obtain ⟨h1, v, hR, hown⟩ := h
  exact ⟨h1, v, (hb.block R (Array.getElem?_eq_some_iff.1 hR).1).trans hR, own_below hown hb⟩

abbrev quoted (x : List UInt8) : List UInt8 := 34 :: (x ++ [34])

theorem next_quoted (x : List UInt8) (hx : x.length < 32) (hq : nextF (quoted x) = ⟨3, x, x.length + 2⟩) {w : World} (hg : Glob w) :
    Calls Tryz.prog 73 #[.string (bs (quoted x))] w fun e w' => e = .returned (.tuple #[.agg #[.int .i64 3, .string (bs x), .int .i64 0], .int .i64 (x.length + 2)]) ∧ Below w.heap.size w w' := by
  have hs : (bs (quoted x)).size = x.length + 2 := by rw [bs_size]; simp
  refine (lex_next (bs (quoted x)) w (by omega) (by omega) hg).mono ?_
  rintro e w' ⟨rfl, hb⟩
  refine ⟨?_, hb⟩
  have : (bs (quoted x)).data.toList = quoted x := by simp [bs]
  rw [this, hq]
  simp

set_option maxHeartbeats 1000000 in
set_option maxRecDepth 100000 in
theorem show_text {w : World} (g c : Nat) (x : List UInt8) (at_ : Int) (hg : Glob w) (hc : ∀ (j : Nat) u, [Value.int .i64 3, .string (bs x), .int .i64 at_][j]? = some u → w.cell? ⟨g, j, none⟩ = some u) (hx : plainB x = true) (hq : nextF (quoted x) = ⟨3, x, x.length + 2⟩) :
    Calls Tryz.prog 31 #[.slice (some ⟨g, 0, none⟩) 1 c] w fun e w' => e = .returned (.tuple #[.string (bs (quoted x)), .int .i64 0]) ∧ Below w.heap.size w w' := by
  have c0 := hc 0 _ rfl
  have c1 := hc 1 _ rfl
  have c2 := hc 2 _ rfl
  have hgl : g < w.heap.size := by
    have := c0; unfold World.cell? at this; rcases Nat.lt_or_ge g w.heap.size with h | h
    · exact h
    · simp [Array.getElem?_eq_none h] at this
  have hl := (plainB_at hx).1
  clear hc
  go_enter Tryz.func31, Tryz.ntmps31
  go_wp2_with (go_at_call 74; refine (newReplacer w.heap.size 8 (heap_alloc_new w _)).mono ?_)
  rintro e w1 ⟨R, rfl, hR, hb1⟩
  have hbw : Below w.heap.size w w1 := ((Below.refl w.heap.size w).alloc (Nat.le_refl _) (.cells (strCells quoteRow).toArray 9)).trans (hb1.mono (by simp))
  have d0 := (hbw.cell (p := ⟨g, 0, none⟩) hgl).trans c0
  have d1 := (hbw.cell (p := ⟨g, 1, none⟩) hgl).trans c1
  have d2 := (hbw.cell (p := ⟨g, 2, none⟩) hgl).trans c2
  have hg1 := hg.grown hbw
  have hgl1 : g < w1.heap.size := Nat.lt_of_lt_of_le hgl hbw.size
  have HR := Lib.hid hR
  clear hR hb1 c0 c1 c2
  obtain ⟨i0, hi, hz0, hz1, hz2⟩ := info_parts infoStr
  go_wp2
  go_loopw [5, 15] (fun o i wr => (i = .int .i64 0 ∧ o = .slice none 0 0 ∧ w1 = wr) ∨ (i = .int .i64 1 ∧ wr.ownsRow w.heap.size 9 1 o 1 [.string (bs (quoted x))] ∧ Below w.heap.size w wr)) (fun o i wr => 1 - (intOf i).toNat)
  case atStart => exact .inl ⟨rfl, rfl, rfl⟩
  case round =>
    rcases hrel with ⟨rfl, rfl, rfl⟩ | ⟨rfl, hown, hb2⟩
    · have hN := RepNew.below HR.out ((Below.refl w1.heap.size w1).alloc (Nat.le_refl _) (.cells #[.int .i64 3, .string (bs x), .int .i64 at_] 103))
      go_wp2_with (go_at_call 75; refine (replace_first _ R hN x hx).mono ?_)
      rintro e w2 ⟨rfl, T, hdone, hm⟩
      have hRl : R < w1.heap.size := (Array.getElem?_eq_some_iff.1 HR.out.2.choose_spec.1).1
      have htok : w2.heap[w1.heap.size]? = some (.cells #[.int .i64 3, .string (bs x), .int .i64 at_] 103 (0, 0)) := by
        rw [hm.block w1.heap.size (by simp) (by omega) (by simp [Value.ownBlock])]; exact heap_alloc_new w1 _
      have hb2 : Below w.heap.size w w2 := by
        refine ⟨hm.os.trans hbw.os, hm.tape.trans hbw.tape, hm.output.trans hbw.output, ?_, fun k hk => ?_⟩
        · have h1 := hm.size; have h2 := hbw.size; simp at h1; omega
        · have h2 := hbw.size
          rw [hm.block k (by simp; omega) (by have := HR.out.1; simp at this; omega) (by simp [Value.ownBlock]), Below.heap_alloc _ _ _ (by omega)]
          exact hbw.block k hk
      have hcat : (⟨#[34]⟩ : ByteArray) ++ bs x ++ ⟨#[34]⟩ = bs (quoted x) := by apply ByteArray.ext; simp [bs]
      have e0 := Lib.cell_of_heap htok 0
      have e1 := Lib.cell_of_heap htok 1
      have e2 := Lib.cell_of_heap htok 2
      simp at e0 e1 e2
      have hg2 := hg.grown hb2
      have HT := Lib.hid htok
      clear hm hdone hN htok
      have hN1 : w1.heap.size < w2.heap.size := (Array.getElem?_eq_some_iff.1 HT.out).1
      go_wp2_with (go_at_call 73; refine (next_quoted x hl hq hg2).mono ?_)
      rintro e w3 ⟨rfl, hb3⟩
      have hb4 : Below w3.heap.size w3 (w3.alloc (.cells #[.int .i64 3, .string (bs x), .int .i64 at_] 103)) := (Below.refl w3.heap.size w3).alloc (Nat.le_refl _) _
      have htok3 := (hb3.block _ hN1).trans HT.out
      have htok4 := (hb4.block _ (Nat.lt_of_lt_of_le hN1 hb3.size)).trans htok3
      have htok5 := (((Below.refl w3.heap.size w3).alloc (Nat.le_refl _) (.cells #[.int .i64 3, .string (bs x), .int .i64 0] 103)).block _ (Nat.lt_of_lt_of_le hN1 hb3.size)).trans htok3
      have f2 := Lib.cell_of_heap htok5 2
      have k0 := Lib.cell_of_heap htok4 0
      have k1 := Lib.cell_of_heap htok4 1
      have k2 := Lib.cell_of_heap htok4 2
      simp at f2 k0 k1 k2
      have HT4 := Lib.hid htok4
      clear htok3 htok4 htok5 e0 e1 e2
      have hb5 : Below w3.heap.size w3 ((w3.alloc (.cells #[.int .i64 3, .string (bs x), .int .i64 at_] 103)).alloc (.cells #[.string (bs (quoted x))] 9)) := hb4.alloc (by simp) _
      go_wp2_with (at_builtin; (refine wpList_append_new rfl _ _ 23 rfl w.heap.size 9 i0 (.string ⟨#[]⟩) 1 16 Tryz.underlying23 hi hz0 hz1 hz2 rfl (by decide) (.slice none 0 0) 0 [] rfl ?c0 ⟨w3.heap.size + 1, 0, none⟩ 1 1 [.string (bs (quoted x))] rfl rfl ?c1 ?c2 (by decide) ?c3 ?c4 ?c5 ?_))
      case c0 => exact ⟨by simp, .inl ⟨rfl, rfl⟩⟩
      case c1 => exact fun j u hu => new_cells2 j u hu
      case c2 => intro u hu; simp at hu; subst hu; rfl
      case c3 => unfold maxLen; omega
      case c4 => omega
      case c5 => have h1 := hb2.size; have h2 := hb3.size; simp; omega
      intro v' w4 hown' hgr hfr
      have hb6 : Below w.heap.size w w4 := ((hb2.trans (hb3.mono hb2.size)).trans (hb5.mono (Nat.le_trans hb2.size hb3.size))).grown hgr (Nat.le_trans (Nat.le_trans hb2.size hb3.size) hb5.size) (by simp [Value.ownBlock])
      have HO := Lib.hid (And.intro hown' hb6)
      obtain ⟨A, cp, rfl⟩ := own_slice hown'
      clear hown' hgr hfr hb6 hb5
      go_wp2
      go_roundw
      case rel => exact .inr ⟨by go_num, HO.out.1, HO.out.2⟩
      case measure => simp [intOf]
    · obtain ⟨g', cp, rfl⟩ : ∃ g' cp, u5 = .slice (some ⟨g', 0, none⟩) 1 cp := by
        rcases hown.2 with ⟨_, h0⟩ | ⟨g', cap, cur, hv, _⟩
        · simp at h0
        · exact ⟨g', cap, hv⟩
      have hj := hown.cells (g := g') rfl 0 _ rfl
      rw [add_plain] at hj
      clear hown
      go_wp2
      go_ret2
      exact ⟨rfl, hb2⟩
end Go.Proofs.YtejpkjcjoengbaaGreatDoor
